/- The walks over Lose and Turn of package circuit. -/
import Derived.Test.YtmbnifnhalgdgaaFails
import Derived.StillTailTactics
import Derived.Deep.CutBlock
namespace Go.Proofs.Ytmbnifnhalgdgaa
open Go.RowKit

set_option maxRecDepth 100000 in
set_option maxHeartbeats 400000 in
theorem lose_ok {w : World} (sb b o : Nat) (c x lost : Int)
    (h : Calls Try.prog 22 #[.pointer (some ⟨sb, 0, none⟩), .int .i64 c, .int .i64 x] w fun e w' => e = .returned (.tuple #[.pointer (some ⟨b, o, none⟩), .int .i64 0]) ∧ w = w')
    (c2 : w.cell? ⟨b, o + 2, none⟩ = some (.int .i64 lost)) (f2 : w.frozen? ⟨b, o + 2, none⟩ = false) (hl1 : 0 ≤ lost) (hl2 : lost ≤ 1000000000) :
    Calls Try.prog 16 #[.pointer (some ⟨sb, 0, none⟩), .int .i64 c, .int .i64 x] w fun e w' => e = .returned (.int .i64 0) ∧ w' = w.setCell ⟨b, o + 2, none⟩ (.int .i64 (lost + 1)) := by
  have H := Lib.hid h; clear h
  go_enter Try.func16, Try.ntmps16
  go_wp2_with fail
  refine H.out.mono ?_
  rintro e w' ⟨rfl, rfl⟩
  go_wp2
  go_ret
  exact ⟨rfl, rfl⟩

/-- What Turn leaves: nothing turned, one piece met, and maybe a bit of it turned. -/
def TurnTo (w w' : World) (g off db len : Nat) : Prop :=
  w' = w ∨ w' = w.setCell ⟨g, off + 1, none⟩ (.bool true) ∨ ∃ j y n, j < len ∧ (Lit.int .u8 y).wf = true ∧ w' = ((w.setCell ⟨g, off + 1, none⟩ (.bool true)).setCell ⟨db, j, none⟩ (.int .u8 y)).drewN n

set_option maxRecDepth 100000 in
set_option maxHeartbeats 1000000 in
theorem turn_ok {w : World} (sb b o g off cap db dc len : Nat) (c x bit : Int) (met : Bool) (byte : Nat → Int)
    (h : Calls Try.prog 22 #[.pointer (some ⟨sb, 0, none⟩), .int .i64 c, .int .i64 x] w fun e w' => e = .returned (.tuple #[.pointer (some ⟨b, o, none⟩), .int .i64 0]) ∧ w = w')
    (c0 : w.cell? ⟨b, o, none⟩ = some (.slice (some ⟨g, off, none⟩) 1 cap)) (g0 : w.cell? ⟨g, off, none⟩ = some (.slice (some ⟨db, 0, none⟩) len dc)) (g1 : w.cell? ⟨g, off + 1, none⟩ = some (.bool met)) (f1 : w.frozen? ⟨g, off + 1, none⟩ = false)
    (hd : ∀ j, j < len → w.cell? ⟨db, j, none⟩ = some (.int .u8 (byte j)) ∧ w.frozen? ⟨db, j, none⟩ = false) (hlen : len ≤ 65536) (hb0 : 0 ≤ bit) (hb1 : bit ≤ 1000000000) (n2 : db ≠ g) :
    Calls Try.prog 17 #[.pointer (some ⟨sb, 0, none⟩), .int .i64 c, .int .i64 x, .int .i64 bit] w fun e w' => e = .returned (.int .i64 0) ∧
      TurnTo w w' g off db len := by
  have H := Lib.hid h; clear h
  have HD := Lib.hid hd; clear hd
  go_enter Try.func17, Try.ntmps17
  go_wp2_with fail
  refine H.out.mono ?_
  rintro e w' ⟨rfl, rfl⟩
  go_wp2_with fail
  go_loop [33] (fun i => ∃ k : Nat, k ≤ 1 ∧ i = .int .i64 k) (fun i => 1 - (intOf i).toNat)
  case atStart => exact ⟨0, by omega, rfl⟩
  case round =>
    obtain ⟨k, hk, rfl⟩ := hrel
    by_cases hk0 : k = 0
    · subst hk0
      cases met
      · by_cases hl : 0 < len
        · obtain ⟨m, hm, hm2⟩ : ∃ m : Nat, bit % (8 * (len : Int)) = (m : Int) ∧ m < 8 * len := by
            have a0 : 0 ≤ bit % (8 * (len : Int)) := Int.emod_nonneg _ (by omega)
            have a1 : bit % (8 * (len : Int)) < 8 * (len : Int) := Int.emod_lt_of_pos _ (by omega)
            exact ⟨(bit % (8 * (len : Int))).toNat, by omega, by omega⟩
          obtain ⟨j, hj, hj2⟩ : ∃ j : Nat, (m : Int) / 8 = (j : Int) ∧ j < len := ⟨m / 8, by omega, by omega⟩
          obtain ⟨s, hs, hs2⟩ : ∃ s : Nat, (m : Int) % 8 = (s : Int) ∧ s < 8 := ⟨m % 8, by omega, by omega⟩
          have hd0 := (HD.out j hj2).1
          have hd1 := (HD.out j hj2).2
          go_wp2_with fail
          have k0 : (w.setCell ⟨g, off + 1, none⟩ (.bool true)).cell? ⟨g, off, none⟩ = some (.slice (some ⟨db, 0, none⟩) len dc) := (World.cell?_setCell_other w _ _ _ (fun e => by have := congrArg Addr.off e; simp at this)).trans g0
          have k1 : (w.setCell ⟨g, off + 1, none⟩ (.bool true)).cell? ⟨db, j, none⟩ = some (.int .u8 (byte j)) := (World.cell?_setCell_other w _ _ _ (fun e => n2 (congrArg Addr.block e).symm)).trans hd0
          have k2 : (w.setCell ⟨g, off + 1, none⟩ (.bool true)).frozen? ⟨db, j, none⟩ = false := (World.frozen?_setCell _ _ _ _).trans hd1
          clear c0 g0 g1 f1 hd0 hd1
          generalize hW : w.setCell ⟨g, off + 1, none⟩ (.bool true) = W at *
          have HW := Lib.hid hW; clear hW
          go_region
          go_wp2
          go_ret
          rw [← HW.out]
          exact ⟨rfl, Or.inr (Or.inr ⟨j, _, 1, hj2, wf_bits _ _ _ _, rfl⟩)⟩
        · have hl0 : len = 0 := by omega
          subst hl0
          go_wp2
          go_ret
          exact ⟨rfl, Or.inr (Or.inl rfl)⟩
      · go_wp2
        go_round
        case rel => exact ⟨1, by omega, by go_num⟩
        case measure => simp [intOf]
    · have hk1 : k = 1 := by omega
      subst hk1
      go_wp2
      go_ret
      exact ⟨rfl, Or.inl rfl⟩

theorem sw_lose {w : World} {own : Owner} {sb : Nat} {S : SwS} (h : IsSw w own sb S) {K : Nat} (hF : S.Few K) (hK : K ≤ 1000000000) (c : Int) (hc : (Lit.int .i64 c).wf = true) (x : Int) (hx : Side x) (q : Pip × Pip) (hu : S.up c = some q) :
    Calls Try.prog 16 #[.pointer (some ⟨sb, 0, none⟩), .int .i64 c, .int .i64 x] w fun e w' => e = .returned (.int .i64 0) ∧ Post own w sb { S with up := setAt S.up c (some (setPip q x ⟨(getPip q x).ps, (getPip q x).lost + 1⟩)) } w' := by
  obtain ⟨mb, f, h⟩ := h
  have hok := h.ok
  obtain ⟨b, e1, e2, v0, v1, hb, p0, p1⟩ := h.yes c q hu
  obtain ⟨k, hk, rfl⟩ := side_nat hx
  have hop := open_ok h.blk h.map c hc b e1 k hk
  obtain ⟨g0, g1, g2⟩ := cCells_get v0 v1 q k hk
  have hpo := getPip_ok (hok.up c q hu).2.1 (hok.up c q hu).2.2 (k : Int)
  have hfp := few_pip hF hu (k : Int)
  refine (lose_ok sb b (3 * k) c k _ hop ((hb.cell _).trans g2) (hb.frozen _) hpo.2 (by omega)).mono fun e w' ⟨he, hw⟩ => ⟨he, ?_⟩
  subst hw
  have hf : Fr (fun j => j = b) w (w.setCell ⟨b, 3 * k + 2, none⟩ (.int .i64 ((getPip q k).lost + 1))) := (Fr.refl (fun j => j = b) w).setCell (p := ⟨b, 3 * k + 2, none⟩) (Or.inr rfl) _
  have hbl := hb.set (3 * k + 2) (.int .i64 ((getPip q k).lost + 1))
  have hcirc := circ_lost p0 p1 k hk hf (fun j hj => hj ▸ e2) _ hbl
  exact ⟨own, ⟨mb, f, h.change c b e1 hf (fun j hj => ⟨.ci c, hj ▸ e2, rfl⟩) (Grow.refl _ _) (fun j r hj => Nat.lt_of_lt_of_le (h.old j r hj) hf.size) _ e2 hcirc (up_ok hok hu k _ ⟨hpo.1, by have := hpo.2; show 0 ≤ (getPip q k).lost + 1; omega⟩) (by rw [hu]; exact fun e => by cases e)⟩, Grow.refl _ _, hf.mono (fun j _ hj => ⟨_, hj ▸ e2⟩)⟩

/-- A piece's bytes in memory. -/
def Bytes (w : World) (db : Nat) (d : List UInt8) : Prop := ∀ j (hj : j < d.length), w.cell? ⟨db, j, none⟩ = some (.int .u8 (d[j].toNat : Int)) ∧ w.frozen? ⟨db, j, none⟩ = false

theorem Bytes.keep {T : Nat → Prop} {w w' : World} {db : Nat} {d : List UInt8} (h : Bytes w db d) (hf : Fr T w w') (hT : ¬ T db) : Bytes w' db d := fun j hj => by
  obtain ⟨e1, e2⟩ := h j hj
  have hb := hf.block db (World.block_lt_of_cell? w _ e1) hT
  exact ⟨(World.cell?_of_block (w := w) hb).trans e1, (World.frozen?_of_block (w := w) hb).trans e2⟩

/-- One byte turns. -/
theorem Bytes.set {w : World} {db : Nat} {d : List UInt8} (h : Bytes w db d) (j : Nat) (hj : j < d.length) (y : Int) (hy : (Lit.int .u8 y).wf = true) :
    Bytes (w.setCell ⟨db, j, none⟩ (.int .u8 y)) db (d.set j (UInt8.ofNat y.toNat)) := by
  have hr : IntKind.u8.min ≤ y ∧ y ≤ IntKind.u8.max := by simpa [Lit.wf] using hy
  have hr0 : 0 ≤ y := hr.1
  have hr1 : y ≤ 255 := hr.2
  have hv : ((UInt8.ofNat y.toNat).toNat : Int) = y := by
    rw [UInt8.toNat_ofNat']
    omega
  intro i hi
  have hi' : i < d.length := by simpa using hi
  refine ⟨?_, (World.frozen?_setCell _ _ _ _).trans (h i hi').2⟩
  by_cases e : j = i
  · subst e
    rw [List.getElem_set_self, hv]
    exact World.cell?_setCell_same w _ _ (h j hj).1
  · rw [List.getElem_set_ne e]
    exact (World.cell?_setCell_other w _ _ _ (fun e' => e (congrArg Addr.off e'))).trans (h i hi').1

/-- The mark of a piece that was met. -/
theorem holds_met {w : World} {g off cap : Nat} {A : Value} {m : Bool} (h : Holds w (some g) 2 (.slice (some ⟨g, off, none⟩) 1 cap) 1 [A, .bool m]) :
    Holds (w.setCell ⟨g, off + 1, none⟩ (.bool true)) (some g) 2 (.slice (some ⟨g, off, none⟩) 1 cap) 1 [A, .bool true] := by
  obtain ⟨hl, hv⟩ := h
  rcases hv with ⟨h, _⟩ | ⟨b', off', cap', hg, hv, hb, hnc, hcell, hroom⟩
  · cases h
  · cases hg; cases hv
    refine ⟨rfl, Or.inr ⟨g, off, cap, rfl, rfl, by simpa [World.setCell] using hb, hnc, fun j u hu => ?_, fun j hj => ?_⟩⟩
    · rcases j with _ | _ | j
      · have : u = A := by simpa using hu.symm
        subst this
        exact (World.cell?_setCell_other w _ _ _ (fun e => by have := congrArg Addr.off e; simp at this)).trans (hcell 0 _ rfl)
      · have : u = .bool true := by simpa using hu.symm
        subst this
        exact World.cell?_setCell_same w _ _ (hcell 1 _ rfl)
      · simp at hu
    · refine ⟨?_, (World.frozen?_setCell _ _ _ _).trans (hroom j hj).2⟩
      obtain ⟨v, hv⟩ := Option.isSome_iff_exists.1 (hroom j hj).1
      obtain ⟨v', hv'⟩ := RowKit.cell?_setCell_some (p := ⟨g, off + 1, none⟩) (x := .bool true) hv
      rw [hv']; rfl

/-- What Turn leaves, said of the piece. -/
theorem turn_left {w w' : World} {g off cap db dc : Nat} {d : List UInt8} {m : Bool} (h : TurnTo w w' g off db d.length)
    (hh : Holds w (some g) 2 (.slice (some ⟨g, off, none⟩) 1 cap) 1 (pcs [(d, db, dc, m)])) (hd : Bytes w db d) (hne : db ≠ g) :
    Fr (fun j => j = g ∨ j = db) w w' ∧ ∃ d' m', d'.length = d.length ∧ Holds w' (some g) 2 (.slice (some ⟨g, off, none⟩) 1 cap) 1 (pcs [(d', db, dc, m')]) ∧ Bytes w' db d' := by
  have hf1 : Fr (fun j => j = g) w (w.setCell ⟨g, off + 1, none⟩ (.bool true)) := fr_set w g (off + 1) _
  have hm := holds_met (A := .slice (some ⟨db, 0, none⟩) d.length dc) (m := m) hh
  have hd1 := hd.keep hf1 hne
  rcases h with rfl | rfl | ⟨j, y, n, hj, hy, rfl⟩
  · exact ⟨Fr.refl _ _, d, m, rfl, hh, hd⟩
  · exact ⟨hf1.mono (fun _ _ h => Or.inl h), d, true, rfl, hm, hd1⟩
  · have hf2 : Fr (fun j => j = db) (w.setCell ⟨g, off + 1, none⟩ (.bool true)) (((w.setCell ⟨g, off + 1, none⟩ (.bool true)).setCell ⟨db, j, none⟩ (.int .u8 y)).drewN n) := (fr_set _ db j _).drewN n
    refine ⟨(hf1.mono (fun _ _ h => Or.inl h)).trans (hf2.mono (fun _ _ h => Or.inr h)), d.set j (UInt8.ofNat y.toNat), true, by simp, ?_, ?_⟩
    · have e : pcs [(d.set j (UInt8.ofNat y.toNat), db, dc, true)] = [.slice (some ⟨db, 0, none⟩) d.length dc, .bool true] := by simp [pcs, pcell]
      rw [e]
      exact hm.keep hf2 (fun k hk h => by cases hk; exact hne h.symm)
    · exact (hd1.set j hj y hy).keep ((Fr.refl (fun _ => False) _).drewN n) id

theorem circ_same {T : Nat → Prop} {w w' : World} {own : Owner} {c : Int} {b : Nat} {v0 v1 : Value} {q : Pip × Pip} (hb : Blk w b (cCells v0 v1 q) 58) (p0 : IsPcs w own c 0 v0 q.1.ps) (p1 : IsPcs w own c 1 v1 q.2.ps) (k : Nat) (hk : k < 2)
    (hf : Fr T w w') (hT : ∀ j, T j → own j = some (.ar c k) ∨ own j = some (.da c k)) (hob : own b = some (.ci c)) (ps' : List (List UInt8)) (hl : ps'.flatten.length = (getPip q k).ps.flatten.length) (hp : IsPcs w' own c k (getV v0 v1 k) ps') :
    IsCirc w' own c b (setPip q k ⟨ps', (getPip q k).lost⟩) := by
  have hb' := hb.keep hf (fun ht => by
    rcases hT _ ht with h | h
    · rw [hob] at h; cases h
    · rw [hob] at h; cases h)
  rcases k with _ | _ | k
  · refine ⟨v0, v1, ?_, hp, p1.keep hf (fun _ _ h => h) (fun j hj ht => ?_) (fun j hj ht => ?_)⟩
    · have hl' : ps'.flatten.length = q.1.ps.flatten.length := hl
      have e : cCells v0 v1 (setPip q ((0 : Nat) : Int) ⟨ps', (getPip q ((0 : Nat) : Int)).lost⟩) = cCells v0 v1 q := by simp [cCells, setPip, getPip, hl']
      rw [e]; exact hb'
    · rcases hT j ht with h | h
      · rw [hj] at h; cases h
      · rw [hj] at h; cases h
    · rcases hT j ht with h | h
      · rw [hj] at h; cases h
      · rw [hj] at h; cases h
  · refine ⟨v0, v1, ?_, p0.keep hf (fun _ _ h => h) (fun j hj ht => ?_) (fun j hj ht => ?_), hp⟩
    · have hl' : ps'.flatten.length = q.2.ps.flatten.length := hl
      have e : cCells v0 v1 (setPip q ((1 : Nat) : Int) ⟨ps', (getPip q ((1 : Nat) : Int)).lost⟩) = cCells v0 v1 q := by simp [cCells, setPip, getPip, hl']
      rw [e]; exact hb'
    · rcases hT j ht with h | h
      · rw [hj] at h; cases h
      · rw [hj] at h; cases h
    · rcases hT j ht with h | h
      · rw [hj] at h; cases h
      · rw [hj] at h; cases h
  · omega

theorem sw_turn {w : World} {own : Owner} {sb : Nat} {S : SwS} (h : IsSw w own sb S) (c : Int) (hc : (Lit.int .i64 c).wf = true) (x : Int) (hx : Side x) (q : Pip × Pip) (hu : S.up c = some q) (d : List UInt8) (hps : (getPip q x).ps = [d]) (bit : Int) (hb0 : 0 ≤ bit) (hb1 : bit ≤ 1000000000) :
    Calls Try.prog 17 #[.pointer (some ⟨sb, 0, none⟩), .int .i64 c, .int .i64 x, .int .i64 bit] w fun e w' => e = .returned (.int .i64 0) ∧ ∃ d', Post own w sb { S with up := setAt S.up c (some (setPip q x ⟨[d'], (getPip q x).lost⟩)) } w' := by
  obtain ⟨mb, f, h⟩ := h
  have hok := h.ok
  obtain ⟨b, e1, e2, v0, v1, hb, p0, p1⟩ := h.yes c q hu
  obtain ⟨k, hk, rfl⟩ := side_nat hx
  have hop := open_ok h.blk h.map c hc b e1 k hk
  obtain ⟨g0, g1, g2⟩ := cCells_get v0 v1 q k hk
  have hpo := getPip_ok (hok.up c q hu).2.1 (hok.up c q hu).2.2 (k : Int)
  obtain ⟨go, Q, hQ, hh, hg, hd⟩ := pcs_of p0 p1 k hk
  rw [hps] at hQ
  match Q, hQ with
  | [(d0, db, dc, m)], hQ =>
    have hd0 : d0 = d := by simpa using hQ
    subst hd0
    obtain ⟨od, hdd⟩ := hd _ List.mem_cons_self
    have hh' := hh
    obtain ⟨hl, hv⟩ := hh'
    rcases hv with ⟨_, _, h0⟩ | ⟨g, off, cap, rfl, hvs, hlt, hnc, hcell, hroom⟩
    · simp at h0
    · have og := hg g rfl
      have hne : db ≠ g := fun e => by simp only at od; rw [e, og] at od; cases od
      have hlen : (d0.length : Int) ≤ S.most := by
        have := hpo.1
        rw [hps] at this
        simpa using this
      have hm := hok.m2
      have c0 : w.cell? ⟨b, 3 * k, none⟩ = some (.slice (some ⟨g, off, none⟩) 1 cap) := ((hb.cell _).trans g0).trans (by rw [hvs]; rfl)
      refine (turn_ok sb b (3 * k) g off cap db dc d0.length c k bit m (fun j => ((d0.getD j 0).toNat : Int)) hop c0 (hcell 0 _ rfl) (hcell 1 _ rfl) (hroom 1 (by simp only [List.length_singleton] at hnc; omega)).2 (fun j hj => ?_) (by omega) hb0 hb1 hne).mono fun e w' ⟨he, ht⟩ => ⟨he, ?_⟩
      · obtain ⟨u1, u2⟩ := hdd j hj
        refine ⟨?_, u2⟩
        rw [List.getD_eq_getElem?_getD, List.getElem?_eq_getElem hj]
        exact u1
      · have hhs : Holds w (some g) 2 (.slice (some ⟨g, off, none⟩) 1 cap) 1 (pcs [(d0, db, dc, m)]) := by
          have := hh
          rw [hvs] at this
          exact this
        obtain ⟨hf, d', m', hl', hh2, hby⟩ := turn_left ht hhs hdd hne
        refine ⟨d', own, ⟨mb, f, ?_⟩, Grow.refl _ _, hf.mono (fun j _ hj => ?_)⟩
        · have hpcs : IsPcs w' own c k (getV v0 v1 k) [d'] := by
            refine ⟨some g, [(d', db, dc, m')], rfl, by rw [hvs]; exact hh2, hg, fun q' hq' => ?_⟩
            rw [List.mem_singleton] at hq'
            subst hq'
            exact ⟨od, hby⟩
          have hcirc := circ_same hb p0 p1 k hk hf (fun j hj => by
            rcases hj with rfl | rfl
            · exact Or.inl og
            · exact Or.inr od) e2 [d'] (by rw [hps]; simp [hl']) hpcs
          refine h.change c b e1 hf (fun j hj => ?_) (Grow.refl _ _) (fun j r hj => Nat.lt_of_lt_of_le (h.old j r hj) hf.size) _ e2 hcirc (up_ok hok hu k _ ⟨?_, hpo.2⟩) (by rw [hu]; exact fun e => by cases e)
          · rcases hj with rfl | rfl
            · exact ⟨_, og, rfl⟩
            · exact ⟨_, od, rfl⟩
          · show (([d'].flatten.length : Nat) : Int) ≤ S.most
            simp [hl', hlen]
        · rcases hj with rfl | rfl
          · exact ⟨_, og⟩
          · exact ⟨_, od⟩

end Go.Proofs.Ytmbnifnhalgdgaa
