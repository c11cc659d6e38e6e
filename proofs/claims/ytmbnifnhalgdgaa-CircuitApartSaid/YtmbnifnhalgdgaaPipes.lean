/- The contracts of Send and Read over what a switch is. -/
import Derived.Test.YtmbnifnhalgdgaaSw
namespace Go.Proofs.Ytmbnifnhalgdgaa
open Go.RowKit

def getV (v0 v1 : Value) (k : Nat) : Value := if k = 0 then v0 else v1

theorem side_nat {x : Int} (h : Side x) : ∃ k : Nat, k < 2 ∧ x = (k : Int) := by
  rcases h with rfl | rfl
  · exact ⟨0, by omega, rfl⟩
  · exact ⟨1, by omega, rfl⟩

theorem cCells_get (v0 v1 : Value) (q : Pip × Pip) (k : Nat) (hk : k < 2) :
    (cCells v0 v1 q)[3 * k]? = some (getV v0 v1 k) ∧ (cCells v0 v1 q)[3 * k + 1]? = some (.int .i64 ((getPip q k).ps.flatten.length : Nat)) ∧ (cCells v0 v1 q)[3 * k + 2]? = some (.int .i64 (getPip q k).lost) := by
  rcases k with _ | _ | k
  · exact ⟨rfl, rfl, rfl⟩
  · exact ⟨rfl, rfl, rfl⟩
  · omega

theorem pcs_of {w : World} {own : Owner} {c : Int} {v0 v1 : Value} {q : Pip × Pip} (p0 : IsPcs w own c 0 v0 q.1.ps) (p1 : IsPcs w own c 1 v1 q.2.ps) (k : Nat) (hk : k < 2) :
    IsPcs w own c k (getV v0 v1 k) (getPip q k).ps := by
  rcases k with _ | _ | k
  · exact p0
  · exact p1
  · omega

/-- One pipe's pieces turn. -/
theorem circ_set {T : Nat → Prop} {w w' : World} {own own' : Owner} {c : Int} {b : Nat} {v0 v1 : Value} {q : Pip × Pip} (p0 : IsPcs w own c 0 v0 q.1.ps) (p1 : IsPcs w own c 1 v1 q.2.ps) (k : Nat) (hk : k < 2)
    (hf : Fr T w w') (hx : ∀ k r, own k = some r → own' k = some r) (hT : ∀ j, T j → own j = some (.ci c) ∨ own j = some (.ar c k)) (v' : Value) (p' : Pip)
    (hb : Blk w' b (((cCells v0 v1 q).setIfInBounds (3 * k) v').setIfInBounds (3 * k + 1) (.int .i64 (p'.ps.flatten.length : Nat))) 58) (hl : p'.lost = (getPip q k).lost) (hp : IsPcs w' own' c k v' p'.ps) :
    IsCirc w' own' c b (setPip q k p') := by
  rcases k with _ | _ | k
  · refine ⟨v', v1, ?_, hp, p1.keep hf hx (fun j hj ht => ?_) (fun j hj ht => ?_)⟩
    · have hl' : p'.lost = q.1.lost := hl
      have : setPip q ((0 : Nat) : Int) p' = (p', q.2) := rfl
      rw [this]
      simpa [cCells, hl'] using hb
    · rcases hT j ht with h | h
      · rw [hj] at h; cases h
      · rw [hj] at h; cases h
    · rcases hT j ht with h | h
      · rw [hj] at h; cases h
      · rw [hj] at h; cases h
  · refine ⟨v0, v', ?_, p0.keep hf hx (fun j hj ht => ?_) (fun j hj ht => ?_), hp⟩
    · have hl' : p'.lost = q.2.lost := hl
      have : setPip q ((1 : Nat) : Int) p' = (q.1, p') := rfl
      rw [this]
      simpa [cCells, hl'] using hb
    · rcases hT j ht with h | h
      · rw [hj] at h; cases h
      · rw [hj] at h; cases h
    · rcases hT j ht with h | h
      · rw [hj] at h; cases h
      · rw [hj] at h; cases h
  · omega

/-- One pipe's losses turn. -/
theorem circ_lost {T : Nat → Prop} {w w' : World} {own : Owner} {c : Int} {b : Nat} {v0 v1 : Value} {q : Pip × Pip} (p0 : IsPcs w own c 0 v0 q.1.ps) (p1 : IsPcs w own c 1 v1 q.2.ps) (k : Nat) (hk : k < 2)
    (hf : Fr T w w') (hT : ∀ j, T j → own j = some (.ci c)) (x : Int)
    (hb : Blk w' b ((cCells v0 v1 q).setIfInBounds (3 * k + 2) (.int .i64 x)) 58) :
    IsCirc w' own c b (setPip q k ⟨(getPip q k).ps, x⟩) := by
  have q0 : IsPcs w' own c 0 v0 q.1.ps := p0.keep hf (fun _ _ h => h) (fun j hj ht => by have := hT j ht; rw [hj] at this; cases this) (fun j hj ht => by have := hT j ht; rw [hj] at this; cases this)
  have q1 : IsPcs w' own c 1 v1 q.2.ps := p1.keep hf (fun _ _ h => h) (fun j hj ht => by have := hT j ht; rw [hj] at this; cases this) (fun j hj ht => by have := hT j ht; rw [hj] at this; cases this)
  rcases k with _ | _ | k
  · exact ⟨v0, v1, by simpa [cCells, setPip, getPip] using hb, q0, q1⟩
  · exact ⟨v0, v1, by simpa [cCells, setPip, getPip] using hb, q0, q1⟩
  · omega

theorem setPip_ok {most : Int} {q : Pip × Pip} (h0 : PipOk most q.1) (h1 : PipOk most q.2) (x : Int) (p : Pip) (hp : PipOk most p) : PipOk most (setPip q x p).1 ∧ PipOk most (setPip q x p).2 := by
  unfold setPip
  split
  · exact ⟨hp, h1⟩
  · exact ⟨h0, hp⟩

theorem getPip_ok {most : Int} {q : Pip × Pip} (h0 : PipOk most q.1) (h1 : PipOk most q.2) (x : Int) : PipOk most (getPip q x) := by
  unfold getPip
  split
  · exact h0
  · exact h1

theorem up_ok {S : SwS} (h : S.Ok) {c : Int} {q : Pip × Pip} (hu : S.up c = some q) (x : Int) (p : Pip) (hp : PipOk S.most p) : ({ S with up := setAt S.up c (some (setPip q x p)) } : SwS).Ok := by
  refine ⟨h.p1, h.p2, h.m1, h.m2, h.l1, h.o1, h.o2, h.n1, fun c' q' hq => ?_⟩
  have hq' : setAt S.up c (some (setPip q x p)) c' = some q' := hq
  by_cases e : c' = c
  · subst e
    rw [setAt_same] at hq'; cases hq'
    have := h.up _ q hu
    exact ⟨this.1, setPip_ok this.2.1 this.2.2 x p hp⟩
  · rw [setAt_other _ _ _ _ e] at hq'
    exact h.up c' q' hq'

def sendS (S : SwS) (c x : Int) (d : List UInt8) : Int × SwS :=
  match S.up c with
  | none => (2502, S)
  | some q =>
    if Side x then
      if S.most - ((getPip q x).ps.flatten.length : Nat) < (d.length : Nat) then (2500, S)
      else if 0 < (getPip q x).lost then (0, { S with up := setAt S.up c (some (setPip q x ⟨(getPip q x).ps, (getPip q x).lost - 1⟩)) })
      else (0, { S with up := setAt S.up c (some (setPip q x ⟨(getPip q x).ps ++ [d], (getPip q x).lost⟩)) })
    else (2500, S)

theorem few_pip {S : SwS} {K : Nat} (h : S.Few K) {c : Int} {q : Pip × Pip} (hu : S.up c = some q) (x : Int) : (getPip q x).ps.length ≤ K ∧ (getPip q x).lost ≤ K := by
  have := h.2 c q hu
  unfold getPip
  split
  · exact this.1
  · exact this.2

theorem size_toList (s : ByteArray) : s.data.toList.length = s.size := by rw [Array.length_toList]; rfl

theorem pcs_snoc (Q : List Pc) (q : Pc) : pcs (Q ++ [q]) = pcs Q ++ pcell q := by simp [pcs]

theorem sw_send {w : World} {own : Owner} {sb : Nat} {S : SwS} (h : IsSw w own sb S) {K : Nat} (hF : S.Few K) (hK : K ≤ 1000000000) (c : Int) (hc : (Lit.int .i64 c).wf = true) (x : Int) (s : ByteArray) (hs : s.size ≤ maxLen)
    (r : Int × SwS) (hr : sendS S c x s.data.toList = r) :
    Calls Try.prog 14 #[.pointer (some ⟨sb, 0, none⟩), .int .i64 c, .int .i64 x, .string s] w fun e w' => e = .returned (.int .i64 r.1) ∧ Post own w sb r.2 w' := by
  have h' := h
  obtain ⟨mb, f, h⟩ := h
  have hok := h.ok
  subst hr
  unfold sendS
  cases hu : S.up c with
  | none => exact (send_err sb c x s 2502 (Or.inr rfl) (open_none h.blk h.map c x hc (h.no c hu))).mono fun e w' ⟨he, hw⟩ => ⟨he, hw ▸ Post.same h' (Fr.refl _ _)⟩
  | some q =>
    obtain ⟨b, e1, e2, v0, v1, hb, p0, p1⟩ := h.yes c q hu
    simp only
    by_cases hx : Side x
    · rw [if_pos hx]
      obtain ⟨k, hk, rfl⟩ := side_nat hx
      have hop := open_ok h.blk h.map c hc b e1 k hk
      obtain ⟨g0, g1, g2⟩ := cCells_get v0 v1 q k hk
      have hpo := getPip_ok (hok.up c q hu).2.1 (hok.up c q hu).2.2 (k : Int)
      have hfp := few_pip hF hu (k : Int)
      have hm : w.cell? ⟨sb, 1, none⟩ = some (.int .i64 S.most) := h.blk.cell 1
      rw [size_toList]
      by_cases c1 : S.most - ((getPip q k).ps.flatten.length : Nat) < (s.size : Nat)
      · rw [if_pos c1]
        exact (send_big sb b (3 * k) c k _ S.most s hs hop hm ((hb.cell _).trans g1) ⟨by omega, hpo.1⟩ hok.m2 c1).mono fun e w' ⟨he, m, hw⟩ => ⟨he, by subst hw; exact Post.same h' ((Fr.refl _ _).drewN _)⟩
      · rw [if_neg c1]
        by_cases c2 : 0 < (getPip q k).lost
        · rw [if_pos c2]
          refine (send_lost sb b (3 * k) c k _ S.most _ s hop hm ((hb.cell _).trans g1) ((hb.cell _).trans g2) (hb.frozen _) ⟨by omega, hpo.1⟩ hok.m2 (by omega) c2 (by omega)).mono fun e w' ⟨he, m, hw⟩ => ⟨he, ?_⟩
          subst hw
          have hf : Fr (fun j => j = b) w ((w.drewN m).setCell ⟨b, 3 * k + 2, none⟩ (.int .i64 ((getPip q k).lost - 1))) := ((Fr.refl (fun j => j = b) w).drewN m).setCell (p := ⟨b, 3 * k + 2, none⟩) (Or.inr rfl) _
          have hbl := (hb.drewN m).set (3 * k + 2) (.int .i64 ((getPip q k).lost - 1))
          have hcirc := circ_lost p0 p1 k hk hf (fun j hj => hj ▸ e2) _ hbl
          refine ⟨own, ⟨mb, f, h.change c b e1 hf (fun j hj => ⟨.ci c, hj ▸ e2, rfl⟩) (Grow.refl _ _) (fun j r hj => Nat.lt_of_lt_of_le (h.old j r hj) hf.size) _ e2 hcirc (up_ok hok hu k _ ⟨hpo.1, by show 0 ≤ (getPip q k).lost - 1; omega⟩) (by rw [hu]; exact fun e => by cases e)⟩, Grow.refl _ _, hf.mono (fun j _ hj => ⟨_, hj ▸ e2⟩)⟩
        · rw [if_neg c2]
          have hl0 : (getPip q k).lost = 0 := by have := hpo.2; omega
          obtain ⟨g, Q, hQ, hh, hg, hd⟩ := pcs_of p0 p1 k hk
          have hQl : Q.length = (getPip q k).ps.length := by rw [← hQ, List.length_map]
          have hgb : g ≠ some b := fun e => by have := hg b e; rw [e2] at this; cases this
          refine (send_ok sb b (3 * k) c k _ S.most _ s (cCells v0 v1 q) g _ Q.length (pcs Q) hop hm hb g0 g1 g2 hh hgb (by omega) ⟨by omega, hpo.1⟩ hok.m2 (by omega) hl0).mono fun e w' ⟨he, b', v', cap, hbl, hh', hor, hlb, hln, hdn, hf⟩ => ⟨he, ?_⟩
          have hgl : ∀ j, g = some j → j < w.heap.size := hh.lt
          have hown : ∀ j r, own j = some r → (if j = w.heap.size then some (Role.da c k) else if j = b' then some (Role.ar c k) else own j) = some r := by
            intro j r hj
            have := h.old j r hj
            rw [if_neg (by omega)]
            split
            · rename_i e
              rcases hor with h1 | h1
              · rw [← e] at h1
                have := hg j h1
                rw [hj] at this
                exact this.symm
              · omega
            · exact hj
          have hnew : (getPip q k).ps.flatten.length + s.size = ((getPip q k).ps ++ [s.data.toList]).flatten.length := by
            rw [List.flatten_append, List.length_append, List.flatten_singleton, size_toList]
          have hTT : ∀ j, (j = b ∨ g = some j) → own j = some (.ci c) ∨ own j = some (.ar c k) := by
            intro j hj
            rcases hj with hj | hj
            · exact Or.inl (hj ▸ e2)
            · exact Or.inr (hg j hj)
          have hb'ne : b' ≠ w.heap.size := by
            rcases hor with h1 | h1
            · have := hgl _ h1; omega
            · omega
          have hpcs : IsPcs w' (fun j => if j = w.heap.size then some (Role.da c k) else if j = b' then some (Role.ar c k) else own j) c k v' ((getPip q k).ps ++ [s.data.toList]) := by
            refine ⟨some b', Q ++ [(s.data.toList, w.heap.size, cap, false)], by rw [List.map_append, hQ]; rfl, ?_, ?_, ?_⟩
            · rw [pcs_snoc, List.length_append]
              have : pcell (s.data.toList, w.heap.size, cap, false) = [.slice (some ⟨w.heap.size, 0, none⟩) s.size cap, .bool false] := by
                unfold pcell; simp only [size_toList]
              rw [this]
              exact hh'
            · intro j hj
              cases hj
              show (if b' = w.heap.size then some (Role.da c k) else if b' = b' then some (Role.ar c k) else own b') = _
              rw [if_neg hb'ne, if_pos rfl]
            · intro q' hq'
              rcases List.mem_append.1 hq' with hq' | hq'
              · obtain ⟨ho, hcell⟩ := hd q' hq'
                refine ⟨hown _ _ ho, fun j hj => ?_⟩
                obtain ⟨u1, u2⟩ := hcell j hj
                have hbk := hf.block q'.2.1 (World.block_lt_of_cell? w _ u1) (fun ht => by
                  rcases hTT _ ht with h1 | h1
                  · rw [ho] at h1; cases h1
                  · rw [ho] at h1; cases h1)
                exact ⟨(World.cell?_of_block (w := w) hbk).trans u1, (World.frozen?_of_block (w := w) hbk).trans u2⟩
              · rw [List.mem_singleton] at hq'
                subst hq'
                refine ⟨if_pos rfl, fun j hj => ?_⟩
                have hj' : j < s.size := by rw [← size_toList]; exact hj
                have := hdn j hj'
                have e : (s.data.toList[j] : UInt8) = s[j] := by simp; rfl
                simp only
                rw [e]
                exact this
          rw [show (((getPip q k).ps.flatten.length : Nat) : Int) + (s.size : Nat) = (((getPip q k).ps ++ [s.data.toList]).flatten.length : Nat) from by rw [← hnew]; simp] at hbl
          have hcirc := circ_set (b := b) p0 p1 k hk hf hown hTT v' ⟨(getPip q k).ps ++ [s.data.toList], (getPip q k).lost⟩ hbl rfl hpcs
          have hgrow : Grow own (fun j => if j = w.heap.size then some (Role.da c k) else if j = b' then some (Role.ar c k) else own j) w.heap.size := by
            refine ⟨hown, fun j r hj => ?_⟩
            split at hj
            · right; omega
            · split at hj
              · rename_i e
                rcases hor with h1 | h1
                · left
                  have := hg b' h1
                  rw [e, this]; exact hj
                · right; omega
              · exact Or.inl hj
          refine ⟨_, ⟨mb, f, h.change c b e1 hf (fun j hj => ?_) hgrow (fun j r hj => ?_) _ e2 hcirc (up_ok hok hu k _ ⟨?_, hpo.2⟩) (by rw [hu]; exact fun e => by cases e)⟩, hgrow, hf.mono (fun j _ hj => ?_)⟩
          · rcases hTT j hj with h1 | h1
            · exact ⟨_, h1, rfl⟩
            · exact ⟨_, h1, rfl⟩
          · split at hj
            · omega
            · split at hj
              · omega
              · exact Nat.lt_of_lt_of_le (h.old j r hj) hf.size
          · show ((((getPip q k).ps ++ [s.data.toList]).flatten.length : Nat) : Int) ≤ S.most
            rw [← hnew]
            omega
          · rcases hTT j hj with h1 | h1
            · exact ⟨_, h1⟩
            · exact ⟨_, h1⟩
    · rw [if_neg hx]
      exact (send_err sb c x s 2500 (Or.inl rfl) (open_form h.blk h.map c x hc b e1 hx)).mono fun e w' ⟨he, hw⟩ => ⟨he, hw ▸ Post.same h' (Fr.refl _ _)⟩

def readS (S : SwS) (c x : Int) : (List UInt8 × Int) × SwS :=
  match S.up c with
  | none => (([], 2502), S)
  | some q =>
    if Side x then (((getPip q (1 - x)).ps.flatten, 0), { S with up := setAt S.up c (some (setPip q (1 - x) ⟨[], (getPip q (1 - x)).lost⟩)) })
    else (([], 2500), S)

theorem bts_flatten (Q : List Pc) : bts Q = (Q.map (·.1)).flatten := by
  unfold bts
  rw [List.flatMap_def]

theorem sw_read {w : World} {own : Owner} {sb : Nat} {S : SwS} (h : IsSw w own sb S) {K : Nat} (hF : S.Few K) (hK : K ≤ 1000000000) (c : Int) (hc : (Lit.int .i64 c).wf = true) (x : Int) (hxw : (Lit.int .i64 x).wf = true)
    (r : (List UInt8 × Int) × SwS) (hr : readS S c x = r) :
    Calls Try.prog 18 #[.pointer (some ⟨sb, 0, none⟩), .int .i64 c, .int .i64 x] w fun e w' => e = .returned (.tuple #[.string ⟨r.1.1.toArray⟩, .int .i64 r.1.2]) ∧ Post own w sb r.2 w' := by
  have h' := h
  obtain ⟨mb, f, h⟩ := h
  have hok := h.ok
  subst hr
  unfold readS
  cases hu : S.up c with
  | none => exact (read_none sb c x (fun y => open_none h.blk h.map c y hc (h.no c hu))).mono fun e w' ⟨he, hw⟩ => ⟨he, hw ▸ Post.same h' (Fr.refl _ _)⟩
  | some q =>
    obtain ⟨b, e1, e2, v0, v1, hb, p0, p1⟩ := h.yes c q hu
    simp only
    by_cases hx : Side x
    · rw [if_pos hx]
      obtain ⟨k, hk, hkx⟩ : ∃ k : Nat, k < 2 ∧ 1 - x = (k : Int) := by
        rcases hx with rfl | rfl
        · exact ⟨1, by omega, rfl⟩
        · exact ⟨0, by omega, rfl⟩
      have hop := open_ok h.blk h.map c hc b e1 k hk
      rw [hkx]
      rw [← hkx] at hop
      obtain ⟨g0, g1, g2⟩ := cCells_get v0 v1 q k hk
      have hpo := getPip_ok (hok.up c q hu).2.1 (hok.up c q hu).2.2 (k : Int)
      have hfp := few_pip hF hu (k : Int)
      obtain ⟨g, Q, hQ, hh, hg, hd⟩ := pcs_of p0 p1 k hk
      have hQl : Q.length = (getPip q k).ps.length := by rw [← hQ, List.length_map]
      have hbt : bts Q = (getPip q k).ps.flatten := by rw [bts_flatten, hQ]
      refine (read_ok sb b (3 * k) c x _ (cCells v0 v1 q) g _ Q (by rcases hx with rfl | rfl <;> omega) hop hb g0 g1 hh (by omega) (by rw [hbt]; have := hpo.1; have := hok.m2; omega) (fun q' hq' j hj => ((hd q' hq').2 j hj).1)).mono fun e w' ⟨he, hbl, hf⟩ => ⟨by rw [← hbt]; exact he, ?_⟩
      have hcirc := circ_set (b := b) p0 p1 k hk hf (fun _ _ h => h) (fun j hj => Or.inl (hj ▸ e2)) (.slice none 0 0) ⟨[], (getPip q k).lost⟩ hbl rfl (empty_pcs _ _ _ _)
      exact ⟨own, ⟨mb, f, h.change c b e1 hf (fun j hj => ⟨.ci c, hj ▸ e2, rfl⟩) (Grow.refl _ _) (fun j r hj => Nat.lt_of_lt_of_le (h.old j r hj) hf.size) _ e2 hcirc (up_ok hok hu k _ ⟨by show ((0 : Nat) : Int) ≤ S.most; have := hok.m1; omega, hpo.2⟩) (by rw [hu]; exact fun e => by cases e)⟩, Grow.refl _ _, hf.mono (fun j _ hj => ⟨_, hj ▸ e2⟩)⟩
    · rw [if_neg hx]
      exact (read_form sb c x hx hxw (fun y hy => open_form h.blk h.map c y hc b e1 hy)).mono fun e w' ⟨he, hw⟩ => ⟨he, hw ▸ Post.same h' (Fr.refl _ _)⟩

end Go.Proofs.Ytmbnifnhalgdgaa
