/- The walk over CircuitPorts: plain facts, and what lies in memory. -/
import Derived.Test.YtmbnifnhalgdgaaFull
import Derived.Deep.RegionHeld3
namespace Go.Proofs.Ytmbnifnhalgdgaa
open Go.RowKit

/-- The switch is what the row of circuits tells. -/
structure PoAt (p : Int) (S : SwS) (U : List Int) : Prop where
  ports : S.ports = p
  owed : S.owed = 0
  n : S.n = U.length
  up : ∀ u ∈ U, (S.up u).isSome = true
  le : ∀ u ∈ U, u ≤ S.last
  nodup : U.Nodup

theorem PoAt.start (p m : Int) : PoAt p (newS p m) [] := ⟨rfl, rfl, rfl, (fun u h => by cases h), (fun u h => by cases h), List.nodup_nil⟩

theorem PoAt.dial {p : Int} {S : SwS} {U : List Int} (h : PoAt p S U) (x : Int) (hx : Side x) (hu : (U.length : Int) < p) :
    ∃ S', dialS S x (1 - x) = ((S.last + 1, 0), S') ∧ PoAt p S' (U ++ [S.last + 1]) ∧ S'.last = S.last + 1 := by
  refine ⟨{ S with last := S.last + 1, n := S.n + 1, up := setAt S.up (S.last + 1) (some (⟨[], 0⟩, ⟨[], 0⟩)) }, ?_, ⟨h.ports, h.owed, ?_, fun u hm => ?_, fun u hm => ?_, ?_⟩, rfl⟩
  · unfold dialS
    have h1 := h.ports
    have h2 := h.n
    have h3 := h.owed
    rw [if_neg (by rintro (h | h); exact h hx; exact h rfl), if_neg (by omega), if_neg (by omega)]
  · show S.n + 1 = _
    rw [List.length_append, h.n]; rfl
  · show (setAt S.up (S.last + 1) (some ((⟨[], 0⟩ : Pip), (⟨[], 0⟩ : Pip))) u).isSome = true
    by_cases e : u = S.last + 1
    · subst e; rw [setAt_same]; rfl
    · rw [setAt_other _ _ _ _ e]
      rcases List.mem_append.1 hm with hm | hm
      · exact h.up u hm
      · exact absurd (List.mem_singleton.1 hm) e
  · show u ≤ S.last + 1
    rcases List.mem_append.1 hm with hm | hm
    · have := h.le u hm; omega
    · rw [List.mem_singleton.1 hm]; exact Int.le_refl _
  · rw [List.nodup_append]
    refine ⟨h.nodup, by simp, fun a ha b hb e => ?_⟩
    rw [List.mem_singleton.1 hb] at e
    have := h.le a ha
    omega

theorem PoAt.full {p : Int} {S : SwS} {U : List Int} (h : PoAt p S U) (x : Int) (hx : Side x) (hu : ¬ (U.length : Int) < p) : dialS S x (1 - x) = ((0, 2501), S) := by
  unfold dialS
  have h1 := h.ports
  have h2 := h.n
  rw [if_neg (by rintro (h | h); exact h hx; exact h rfl), if_pos (by omega)]

theorem PoAt.hang {p : Int} {S : SwS} {U : List Int} (h : PoAt p S U) (k : Nat) (hk : k < U.length) :
    ∃ S', hangS S U[k] = (0, S') ∧ hangS S' U[k] = (2502, S') ∧ PoAt p S' (U.take k ++ U.drop (k + 1)) ∧ S'.last = S.last := by
  have hup := h.up U[k] (List.getElem_mem hk)
  have hsplit : U = U.take k ++ U[k] :: U.drop (k + 1) := by rw [← List.drop_eq_getElem_cons hk, List.take_append_drop]
  have hnd := h.nodup
  rw [hsplit, List.nodup_append] at hnd
  obtain ⟨n1, n2, n3⟩ := hnd
  rw [List.nodup_cons] at n2
  have hmem : ∀ u ∈ U.take k ++ U.drop (k + 1), u ∈ U ∧ u ≠ U[k] := by
    intro u hu
    rcases List.mem_append.1 hu with hu | hu
    · exact ⟨List.mem_of_mem_take hu, fun e => n3 u hu U[k] List.mem_cons_self e⟩
    · exact ⟨List.mem_of_mem_drop hu, fun e => n2.1 (e ▸ hu)⟩
  have hlen : (U.take k ++ U.drop (k + 1)).length = U.length - 1 := by
    rw [List.length_append, List.length_take, List.length_drop]; omega
  obtain ⟨q, hq⟩ := Option.isSome_iff_exists.1 hup
  refine ⟨{ S with n := S.n - 1, up := setAt S.up U[k] none }, ?_, ?_, ⟨h.ports, h.owed, ?_, fun u hu => ?_, fun u hu => ?_, ?_⟩, rfl⟩
  · unfold hangS; rw [hq]
  · unfold hangS; simp only; rw [setAt_same]
  · show S.n - 1 = _
    rw [hlen, h.n]
  · show (setAt S.up U[k] none u).isSome = true
    rw [setAt_other _ _ _ _ (hmem u hu).2]
    exact h.up u (hmem u hu).1
  · exact h.le u (hmem u hu).1
  · rw [List.nodup_append]
    exact ⟨n1, n2.2, fun a ha b hb e => n3 a ha b (List.mem_cons_of_mem _ hb) e⟩

/-- The switch, and beside it the row of circuits. -/
def PoB (w0 w : World) (sb : Nat) (S : SwS) (v : Value) (U : List Int) : Prop :=
  ∃ own g, IsSw w own sb S ∧ (∀ k r, own k = some r → w0.heap.size ≤ k) ∧ Fr (fun _ => False) w0 w ∧ Holds w g 1 v U.length (U.map (Value.int .i64)) ∧ ∀ k, g = some k → own k = none ∧ w0.heap.size ≤ k

theorem PoB.same {w0 w : World} {sb : Nat} {S : SwS} {v : Value} {U : List Int} (h : PoB w0 w sb S v U) : Fr (fun _ => False) w0 w := by
  obtain ⟨own, g, h1, h2, h3, h4, h5⟩ := h
  exact h3

theorem PoB.drewN {w0 w : World} {sb : Nat} {S : SwS} {v : Value} {U : List Int} (n : Nat) (h : PoB w0 w sb S v U) : PoB w0 (w.drewN n) sb S v U := by
  obtain ⟨own, g, h1, h2, h3, h4, h5⟩ := h
  exact ⟨own, g, h1.keep ((Fr.refl (fun _ => False) w).drewN n) (fun _ _ _ h => h), h2, h3.drewN n, h4.drewN n, h5⟩

theorem PoB.start {w0 w : World} {sb : Nat} {S : SwS} (h : SwB w0 w sb S) : PoB w0 w sb S (.slice none 0 0) [] := by
  obtain ⟨own, h1, h2, h3⟩ := h
  exact ⟨own, none, h1, h2, h3, Holds.nil _ _, (fun k hk => by cases hk)⟩

theorem PoB.call {w0 w : World} {sb : Nat} {S : SwS} {v : Value} {U : List Int} (h : PoB w0 w sb S v U) {f : FuncId} {args : Array Value} {u : Value} {S' : SwS}
    (call : ∀ own, IsSw w own sb S → Calls Try.prog f args w fun e w' => e = .returned u ∧ Post own w sb S' w') : Calls Try.prog f args w fun e w' => e = .returned u ∧ PoB w0 w' sb S' v U := by
  obtain ⟨own, g, h1, h2, h3, h4, h5⟩ := h
  refine (call own h1).mono fun e w' ⟨he, own', g1, g2, g3⟩ => ⟨he, own', g, g1, fun k r hk => ?_, ?_, h4.keep g3 (fun k hk ⟨r, hr⟩ => by rw [(h5 k hk).1] at hr; cases hr), fun k hk => ⟨?_, (h5 k hk).2⟩⟩
  · rcases g2.new k r hk with h | h
    · exact h2 k r h
    · exact Nat.le_trans h3.size h
  · refine ⟨g3.os.trans h3.os, g3.tape.trans h3.tape, g3.output.trans h3.output, Nat.le_trans h3.size g3.size, fun i hi _ => ?_⟩
    refine (g3.block i (Nat.lt_of_lt_of_le hi h3.size) (fun ⟨r, hr⟩ => ?_)).trans (h3.block i hi id)
    have := h2 i r hr
    omega
  · cases e : own' k with
    | none => rfl
    | some r =>
      rcases g2.new k r e with h | h
      · rw [(h5 k hk).1] at h; cases h
      · have := h4.lt k hk; omega

theorem PoB.busy {w0 w : World} {sb : Nat} {S : SwS} {v : Value} {U : List Int} (h : PoB w0 w sb S v U) (x : Int) (hx : Side x) (n : Int) (hn : (S.n : Int) = n) :
    Calls Try.prog 13 #[.pointer (some ⟨sb, 0, none⟩), .int .i64 x] w fun e w' => e = .returned (.int .i64 n) ∧ w = w' := by
  obtain ⟨own, g, h1, h2, h3, h4, h5⟩ := h
  subst hn
  exact sw_busy h1 x hx

/-- The row's value, and its cells. -/
theorem PoB.row {w0 w : World} {sb : Nat} {S : SwS} {v : Value} {U : List Int} (h : PoB w0 w sb S v U) :
    (v = .slice none 0 0 ∧ U = []) ∨ ∃ b off cap, v = .slice (some ⟨b, off, none⟩) U.length cap ∧ U.length ≤ cap ∧ ∀ j (hj : j < U.length), w.cell? ⟨b, off + j, none⟩ = some (.int .i64 U[j]) := by
  obtain ⟨own, g, h1, h2, h3, ⟨hl, h4⟩, h5⟩ := h
  rcases h4 with ⟨_, rfl, h0⟩ | ⟨b, off, cap, _, rfl, _, hc, hcell, _⟩
  · exact Or.inl ⟨rfl, List.eq_nil_of_length_eq_zero h0⟩
  · exact Or.inr ⟨b, off, cap, rfl, hc, fun j hj => hcell j _ (by simp [hj])⟩

theorem sw_old {w : World} {own : Owner} {sb : Nat} {S : SwS} (h : IsSw w own sb S) : ∀ k r, own k = some r → k < w.heap.size := by
  obtain ⟨mb, f, h⟩ := h
  exact h.old

theorem sw_ok {w : World} {own : Owner} {sb : Nat} {S : SwS} (h : IsSw w own sb S) : S.Ok := by
  obtain ⟨mb, f, h⟩ := h
  exact h.ok

/-- A new row in the elder's place. -/
theorem PoB.turn {w0 w w' : World} {sb : Nat} {S : SwS} {v : Value} {U : List Int} (h : PoB w0 w sb S v U) (hf : Fr (fun k => w.heap.size ≤ k) w w') {v' : Value} {U' : List Int} (g' : Option Nat)
    (hh : Holds w' g' 1 v' U'.length (U'.map (Value.int .i64))) (hg : ∀ k, g' = some k → w.heap.size ≤ k) : PoB w0 w' sb S v' U' := by
  obtain ⟨own, g, h1, h2, h3, h4, h5⟩ := h
  refine ⟨own, g', h1.keep hf (fun k r hk ht => by have := sw_old h1 k r hk; omega), h2, ?_, hh, fun k hk => ⟨?_, Nat.le_trans h3.size (hg k hk)⟩⟩
  · refine ⟨hf.os.trans h3.os, hf.tape.trans h3.tape, hf.output.trans h3.output, Nat.le_trans h3.size hf.size, fun i hi _ => ?_⟩
    exact (hf.block i (Nat.lt_of_lt_of_le hi h3.size) (by have := h3.size; omega)).trans (h3.block i hi id)
  · cases e : own k with
    | none => rfl
    | some r => have := sw_old h1 k r e; have := hg k hk; omega

theorem holds_owned {w : World} {base : Nat} {e : TypeId} {v : Value} {n : Nat} {xs : List Value} (h : w.ownsRow base e 1 v n xs) : ∃ g, Holds w g 1 v n xs ∧ ∀ k, g = some k → base ≤ k := by
  by_cases hn : 0 < n
  · obtain ⟨b, cap, rfl, hb, hh⟩ := holds_of_owns h hn
    exact ⟨some b, hh, fun k hk => by cases hk; exact hb⟩
  · have hn0 : n = 0 := by omega
    subst hn0
    obtain ⟨h1, h2⟩ := h
    rcases h2 with ⟨rfl, _⟩ | ⟨b, cap, cur, rfl, hb, hg, hnc, hcm, hcs, ht⟩
    · exact ⟨none, ⟨h1, Or.inl ⟨rfl, rfl, rfl⟩⟩, fun k hk => by cases hk⟩
    · refine ⟨some b, ⟨h1, Or.inr ⟨b, 0, cap, rfl, rfl, (Array.getElem?_eq_some_iff.1 hg).1, hnc, fun j u hu => ?_, fun j hj => ?_⟩⟩, fun k hk => by cases hk; exact hb⟩
      · have : xs = [] := List.eq_nil_of_length_eq_zero (by simpa using h1)
        rw [this] at hu; simp at hu
      · constructor
        · simp only [World.cell?, hg, Nat.zero_add]
          have : j < cur.size := by omega
          simp [this]
        · simp [World.frozen?, hg]

/-- One circuit more in the row. -/
theorem po_app {w0 w1 w2 : World} {sb : Nat} {S : SwS} {own : Owner} {g : Option Nat} {v : Value} {U : List Int} {o : Obj} (q1 : IsSw w1 own sb S) (q2 : ∀ k r, own k = some r → w0.heap.size ≤ k) (q3 : Fr (fun _ => False) w0 w1)
    (_ : Holds w1 g 1 v U.length (U.map (Value.int .i64))) (q5 : ∀ k, g = some k → own k = none ∧ w0.heap.size ≤ k) (hf : Fr (fun k => g = some k) (w1.alloc o) w2) (b : Nat) (v' : Value) (c : Int)
    (hh : Holds w2 (some b) 1 v' (U.length + 1) (U.map (Value.int .i64) ++ [.int .i64 c])) (hor : g = some b ∨ w1.heap.size ≤ b) : PoB w0 w2 sb S v' (U ++ [c]) := by
  have hf1 : Fr (fun k => g = some k) w1 w2 := ((Fr.refl (fun k => g = some k) w1).alloc o).trans hf
  have hb : own b = none ∧ w0.heap.size ≤ b := by
    rcases hor with h | h
    · exact q5 b h
    · refine ⟨?_, Nat.le_trans q3.size h⟩
      cases e : own b with
      | none => rfl
      | some r => have := sw_old q1 b r e; omega
  refine ⟨own, some b, q1.keep hf1 (fun k r hk ht => by rw [(q5 k ht).1] at hk; cases hk), q2, ?_, ?_, fun k hk => by cases hk; exact hb⟩
  · refine ⟨hf1.os.trans q3.os, hf1.tape.trans q3.tape, hf1.output.trans q3.output, Nat.le_trans q3.size hf1.size, fun i hi _ => ?_⟩
    exact (hf1.block i (Nat.lt_of_lt_of_le hi q3.size) (fun ht => by have := (q5 i ht).2; omega)).trans (q3.block i hi id)
  · simpa using hh

theorem PoB.cellAt {w0 w : World} {sb : Nat} {S : SwS} {U : List Int} {b off cap : Nat} (h : PoB w0 w sb S (.slice (some ⟨b, off, none⟩) U.length cap) U) : U.length ≤ cap ∧ ∀ j (hj : j < U.length), w.cell? ⟨b, off + j, none⟩ = some (.int .i64 U[j]) := by
  rcases h.row with ⟨h, _⟩ | ⟨b', off', cap', h, hc, hcl⟩
  · cases h
  · cases h
    exact ⟨hc, hcl⟩

/-- The cells of the row's head, and of what stands behind one place. -/
theorem head_cells {w : World} {U : List Int} {b off : Nat} (h : ∀ j (hj : j < U.length), w.cell? ⟨b, off + j, none⟩ = some (.int .i64 U[j])) (k : Nat) :
    ∀ j u, ((U.take k).map (Value.int .i64))[j]? = some u → w.cell? ((⟨b, off, none⟩ : Addr).add j) = some u := by
  intro j u hu
  rw [Go.WideShapes.add_plain]
  obtain ⟨hlt, he⟩ := List.getElem?_eq_some_iff.1 hu
  have hj : j < U.length := by
    have : j < (U.take k).length := by simpa using hlt
    rw [List.length_take] at this
    omega
  rw [h j hj, ← he]
  simp

theorem tail_cells {w : World} {U : List Int} {b off : Nat} (h : ∀ j (hj : j < U.length), w.cell? ⟨b, off + j, none⟩ = some (.int .i64 U[j])) (k : Nat) :
    ∀ j u, ((U.drop k).map (Value.int .i64))[j]? = some u → w.cell? ((⟨b, off + k, none⟩ : Addr).add j) = some u := by
  intro j u hu
  rw [Go.WideShapes.add_plain]
  obtain ⟨hlt, he⟩ := List.getElem?_eq_some_iff.1 hu
  have hj : k + j < U.length := by
    have : j < (U.drop k).length := by simpa using hlt
    rw [List.length_drop] at this
    omega
  have := h (k + j) hj
  rw [← Nat.add_assoc] at this
  rw [this, ← he]
  simp

theorem ints_one (L : List Int) : ∀ u ∈ L.map (Value.int .i64), u.oneCell' = true := by
  intro u hu
  obtain ⟨_, _, rfl⟩ := List.mem_map.1 hu
  rfl

/-- 'int(uint(z) / 2 % uint(n))'. -/
theorem pick_is (z : Int) (n : Nat) (h0 : 0 < n) (h1 : n ≤ 8) : ∃ k : Nat, k < n ∧ wrap64 ((IntKind.u64.wrap ((IntKind.u64.wrap z).tdiv 2)).tmod (n : Int)) = (k : Int) := by
  have e : ∀ y : Int, IntKind.u64.wrap y = y % 18446744073709551616 := fun y => by simp [IntKind.wrap, IntKind.bits, IntKind.signed]
  have a0 : 0 ≤ z % 18446744073709551616 := Int.emod_nonneg _ (by decide)
  have a1 : z % 18446744073709551616 < 18446744073709551616 := Int.emod_lt_of_pos _ (by decide)
  rw [e, e]
  generalize z % 18446744073709551616 = y at *
  rw [Int.tdiv_eq_ediv_of_nonneg a0]
  have b0 : 0 ≤ y / 2 % 18446744073709551616 := by omega
  rw [Int.tmod_eq_emod_of_nonneg b0]
  generalize y / 2 % 18446744073709551616 = x at *
  have c0 : 0 ≤ x % (n : Int) := Int.emod_nonneg _ (by omega)
  have c1 : x % (n : Int) < n := Int.emod_lt_of_pos _ (by omega)
  refine ⟨(x % (n : Int)).toNat, by omega, ?_⟩
  unfold wrap64
  omega

/-- The row without one of its circuits. -/
theorem po_left {w0 w2 w3 w4 : World} {sb : Nat} {S : SwS} {v v1 v2 : Value} {U L R : List Int} (h : PoB w0 w2 sb S v U) (h1 : w3.ownsRow w2.heap.size 3 1 v1 L.length (L.map (Value.int .i64))) (g1 : w2.grownBy w3 none)
    (h2 : w4.ownsRow w2.heap.size 3 1 v2 (L.length + R.length) (L.map (Value.int .i64) ++ R.map (Value.int .i64))) (g2 : w3.grownBy w4 v1.ownBlock) : PoB w0 w4 sb S v2 (L ++ R) := by
  obtain ⟨g, hh, hg⟩ := holds_owned h2
  have f1 : Fr (fun k => w2.heap.size ≤ k) w2 w3 := fr_grown g1 _
  have f2 : Fr (fun k => w2.heap.size ≤ k) w3 w4 := fr_row g2 (fun k hk => (h1.lt k hk).1)
  refine h.turn (f1.trans f2) g ?_ hg
  rw [List.length_append, List.map_append]
  exact hh

end Go.Proofs.Ytmbnifnhalgdgaa
