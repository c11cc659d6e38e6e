/- A slice of the call's own that is appended to and cut at its head: plain words and the law on append; conditions: none but those written. -/
import Derived.Test.YtmbnifnhalgdgaaMem
import Derived.Deep.Upon
namespace Go.Proofs.Ytmbnifnhalgdgaa
open Go.RowKit

/-- The slice v has n elements of 'size' cells each, the cells xs; it is nil (g none), or lies in block g, with all its room. -/
def Holds (w : World) (g : Option Nat) (size : Nat) (v : Value) (n : Nat) (xs : List Value) : Prop :=
  xs.length = n * size ∧
  ((g = none ∧ v = .slice none 0 0 ∧ n = 0) ∨
   ∃ b off cap, g = some b ∧ v = .slice (some ⟨b, off, none⟩) n cap ∧ b < w.heap.size ∧ n ≤ cap ∧
    (∀ j u, xs[j]? = some u → w.cell? ⟨b, off + j, none⟩ = some u) ∧
    (∀ j, j < cap * size → (w.cell? ⟨b, off + j, none⟩).isSome = true ∧ w.frozen? ⟨b, off + j, none⟩ = false))

theorem Holds.nil (w : World) (size : Nat) : Holds w none size (.slice none 0 0) 0 [] := ⟨by simp, Or.inl ⟨rfl, rfl, rfl⟩⟩

theorem Holds.keep {w w' : World} {g : Option Nat} {size : Nat} {v : Value} {n : Nat} {xs : List Value} {S : Nat → Prop} (h : Holds w g size v n xs) (hf : Fr S w w') (hS : ∀ k, g = some k → ¬ S k) : Holds w' g size v n xs := by
  obtain ⟨h1, h2⟩ := h
  refine ⟨h1, ?_⟩
  rcases h2 with h2 | ⟨b, off, cap, hg, hv, hb, hn, hc, hr⟩
  · exact Or.inl h2
  · refine Or.inr ⟨b, off, cap, hg, hv, Nat.lt_of_lt_of_le hb hf.size, hn, fun j u hu => ?_, fun j hj => ?_⟩
    · rw [World.cell?_of_block (w := w) (hf.block b hb (hS b hg))]; exact hc j u hu
    · rw [World.cell?_of_block (w := w) (hf.block b hb (hS b hg)), World.frozen?_of_block (w := w) (hf.block b hb (hS b hg))]; exact hr j hj

theorem Holds.drewN {w : World} {g : Option Nat} {size : Nat} {v : Value} {n : Nat} {xs : List Value} (m : Nat) (h : Holds w g size v n xs) : Holds (w.drewN m) g size v n xs := h

theorem Holds.lt {w : World} {g : Option Nat} {size : Nat} {v : Value} {n : Nat} {xs : List Value} (h : Holds w g size v n xs) : ∀ k, g = some k → k < w.heap.size := by
  intro k hk
  rcases h.2 with ⟨h, _⟩ | ⟨b, off, cap, hg, hv, hb, _⟩
  · rw [h] at hk; cases hk
  · rw [hg] at hk; cases hk; exact hb

theorem Fr.setCells {S : Nat → Prop} {a : World} {b : Nat} (hb : S b) : ∀ (vs : List Value) (o : Nat) (w : World), Fr S a w → Fr S a (w.setCells b o vs)
  | [], _, _, h => h
  | _ :: r, o, _, h => Fr.setCells hb r (o + 1) _ (h.setCell (Or.inr hb) _)

theorem fr_grown {w w' : World} (h : w.grownBy w' none) (S : Nat → Prop) : Fr S w w' :=
  ⟨h.os, h.tape, h.output, h.size, fun k hk _ => h.block k hk (by simp)⟩

theorem holds_of_owns {w : World} {base : Nat} {e : TypeId} {size : Nat} {v : Value} {n : Nat} {xs : List Value} (h : w.ownsRow base e size v n xs) (hn : 0 < n) :
    ∃ b cap, v = .slice (some ⟨b, 0, none⟩) n cap ∧ base ≤ b ∧ Holds w (some b) size v n xs := by
  obtain ⟨h1, h2⟩ := h
  rcases h2 with ⟨_, h0⟩ | ⟨b, cap, cur, hv, hb, hg, hnc, hcm, hcs, ht⟩
  · omega
  · refine ⟨b, cap, hv, hb, h1, Or.inr ⟨b, 0, cap, rfl, hv, (Array.getElem?_eq_some_iff.1 hg).1, hnc, fun j u hu => ?_, fun j hj => ?_⟩⟩
    · have hj : j < xs.length := (List.getElem?_eq_some_iff.1 hu).1
      rw [← ht, List.getElem?_take_of_lt (by omega)] at hu
      simp only [World.cell?, hg, Nat.zero_add]
      simpa using hu
    · constructor
      · simp only [World.cell?, hg, Nat.zero_add]
        simp [hcs, hj]
      · simp [World.frozen?, hg]

/-- ONE LAW FOR append ONTO SUCH A SLICE, whether there is room or not. -/
theorem wpList_append_holds {P : Program} (w : World) {ops : Array Oper} {rest : List Oper} {o : Oper} {a : Act} {Q : Exit → Act → World → Prop}
    (hg : o.guard = none) (s x : Operand) (t : TypeId) (hop : o.op = Op.call { callee := Callee.builtin Builtin.append, args := #[s, x], argTypes := #[t, t] })
    (e : TypeId) (i : TypeInfo) (z : Value) (size bytes : Nat) (h1 : P.underlying t = some (.slice e)) (h2 : P.info? e = some i) (h3 : i.zero = some z) (h4 : i.size = size) (h5 : i.bytes = bytes) (h6 : z.cells.size = size) (h7 : 0 < size)
    (g : Option Nat) (v : Value) (n : Nat) (xs : List Value) (hs : a.eval s = v) (hh : Holds w g size v n xs)
    (ad : Addr) (m c : Nat) (news : List Value) (hx : a.eval x = .slice (some ad) m c) (hn : news.length = m * size) (hc : ∀ j u, news[j]? = some u → w.cell? (ad.add j) = some u) (h1c : ∀ u ∈ news, u.oneCell' = true)
    (hm : 0 < m) (b1 : n + m ≤ maxLen) (b2 : (n + m) * bytes ≤ 140737488355328)
    (hK : ∀ b off cap w', Holds w' (some b) size (.slice (some ⟨b, off, none⟩) (n + m) cap) (n + m) (xs ++ news) → (g = some b ∨ w.heap.size ≤ b) → b < w'.heap.size → Fr (fun k => g = some k) w w' →
      wpList P ops Q rest (a.put o.dst (.slice (some ⟨b, off, none⟩) (n + m) cap)) w') :
    wpList P ops Q (o :: rest) a w := by
  obtain ⟨hl, hv⟩ := hh
  rcases hv with ⟨rfl, rfl, rfl⟩ | ⟨b, off, cap, rfl, rfl, hb, hnc, hcell, hroom⟩
  · have hx0 : xs = [] := List.eq_nil_of_length_eq_zero (by simpa using hl)
    subst hx0
    refine wpList_append_grows w hg s x t hop e i z size bytes h1 h2 h3 h4 h5 h6 h7 none 0 0 [] hs (fun _ => ⟨rfl, rfl⟩) (by simp) (fun b hb => by cases hb) ad m c news hx hn hc h1c (by omega) b1 b2 ?_
    intro v' w' hown hgr
    obtain ⟨b, cap, rfl, hbase, hh'⟩ := holds_of_owns hown (by omega)
    exact hK b 0 cap w' hh' (Or.inr hbase) (hh'.lt b rfl) (fr_grown hgr _)
  · refine wpList_append_arg w hg s x t hop e i z size bytes h1 h2 h3 h4 h5 h6 h7 b off n cap xs hs hl hcell ad m c news hx hn hc h1c ?_ b1 b2 ?_ ?_
    · intro hfit j hj
      have := hroom (n * size + j) (by
        have h8 : (n + m) * size ≤ cap * size := Nat.mul_le_mul_right _ hfit
        rw [Nat.add_mul] at h8
        omega)
      rw [← Nat.add_assoc] at this
      exact this
    · intro hfit
      have hcells : ∀ j, j < news.length → (w.cell? ⟨b, off + n * size + j, none⟩).isSome = true := by
        intro j hj
        have h8 : (n + m) * size ≤ cap * size := Nat.mul_le_mul_right _ hfit
        rw [Nat.add_mul] at h8
        have := (hroom (n * size + j) (by omega)).1
        rw [← Nat.add_assoc] at this
        exact this
      have hf : Fr (fun k => some b = some k) w (w.setCells b (off + n * size) news) := Fr.setCells (S := fun k => some b = some k) rfl _ _ _ (Fr.refl _ _)
      refine hK b off cap _ ⟨by rw [List.length_append, hl, hn, Nat.add_mul], Or.inr ⟨b, off, cap, rfl, rfl, Nat.lt_of_lt_of_le hb hf.size, hfit, ?_, ?_⟩⟩ (Or.inl rfl) (Nat.lt_of_lt_of_le hb hf.size) hf
      · intro j u hu
        by_cases hj : j < xs.length
        · rw [List.getElem?_append_left hj] at hu
          rw [World.cell?_setCells_out b news (off + n * size) w ⟨b, off + j, none⟩ (fun _ _ => Or.inl (by show off + j < _; omega))]
          exact hcell j u hu
        · rw [List.getElem?_append_right (by omega)] at hu
          obtain ⟨hlt, he⟩ := List.getElem?_eq_some_iff.1 hu
          have := World.cell?_setCells_in b news (off + n * size) w hcells (j - xs.length) hlt
          rw [show off + n * size + (j - xs.length) = off + j from by omega, he] at this
          exact this
      · intro j hj
        have h9 := hroom j hj
        constructor
        · by_cases hin : off + n * size ≤ off + j ∧ off + j < off + n * size + news.length
          · have := World.cell?_setCells_in b news (off + n * size) w hcells (j - n * size) (by omega)
            rw [show off + n * size + (j - n * size) = off + j from by omega] at this
            rw [this]; rfl
          · rw [World.cell?_setCells_out b news (off + n * size) w ⟨b, off + j, none⟩ (fun _ _ => by show off + j < _ ∨ _ ≤ off + j; omega)]
            exact h9.1
        · rw [World.frozen?_setCells]; exact h9.2
    · intro hfull v' w' hown hgr
      obtain ⟨b', cap', rfl, hbase, hh'⟩ := holds_of_owns hown (by omega)
      exact hK b' 0 cap' w' hh' (Or.inr hbase) (hh'.lt b' rfl) (fr_grown hgr _)

/-- The first element goes: 'v[1:]'. -/
theorem Holds.tail {w : World} {b off n cap size : Nat} {x : List Value} {xs : List Value} (h : Holds w (some b) size (.slice (some ⟨b, off, none⟩) (n + 1) cap) (n + 1) (x ++ xs)) (hx : x.length = size) :
    Holds w (some b) size (.slice (some (if cap = 1 then ⟨b, off, none⟩ else ⟨b, off + size, none⟩)) n (cap - 1)) n xs := by
  obtain ⟨hl, hv⟩ := h
  rcases hv with ⟨h, _⟩ | ⟨b', off', cap', hg, hv, hb, hnc, hcell, hroom⟩
  · cases h
  · cases hg; cases hv
    have hl' : xs.length = n * size := by
      rw [List.length_append, hx, Nat.add_mul] at hl; omega
    refine ⟨hl', Or.inr ⟨b, if cap = 1 then off else off + size, cap - 1, rfl, ?_, hb, by omega, fun j u hu => ?_, fun j hj => ?_⟩⟩
    · split <;> rfl
    · by_cases hc1 : cap = 1
      · have hn0 : n = 0 := by omega
        rw [hn0, Nat.zero_mul] at hl'
        rw [List.eq_nil_of_length_eq_zero hl'] at hu; simp at hu
      · rw [if_neg hc1]
        have := hcell (x.length + j) u (by rw [List.getElem?_append_right (by omega)]; simpa using hu)
        rw [hx, ← Nat.add_assoc] at this
        exact this
    · by_cases hc1 : cap = 1
      · rw [hc1] at hj; simp at hj
      · rw [if_neg hc1]
        have := hroom (size + j) (by
          have : (cap - 1) * size + size = cap * size := by
            rw [← Nat.succ_mul]; congr 1; omega
          omega)
        rw [← Nat.add_assoc] at this
        exact this

/-- The one new cell that 'append(v, x)' lays, at a block number that is spelt otherwise. -/
theorem cell_one_at (w : World) (x : Value) (e : TypeId) (k : Nat) (h : w.heap.size = k) : ∀ j u, [x][j]? = some u → (w.alloc (.cells #[x] e)).cell? ((⟨k, 0, none⟩ : Addr).add j) = some u := by
  subst h
  exact cell_one_new w x e

theorem size_setCell (w : World) (p : Addr) (u : Value) : (w.setCell p u).heap.size = w.heap.size := by simp [World.setCell]

end Go.Proofs.Ytmbnifnhalgdgaa
