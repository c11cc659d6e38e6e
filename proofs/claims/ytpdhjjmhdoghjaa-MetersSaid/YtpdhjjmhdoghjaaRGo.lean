/- The walk over the reference's Tick of chapter 23: the good way. -/
import Derived.Test.YtpdhjjmhdoghjaaRTick
import Derived.Deep.DeepCutAuto
namespace Go.Proofs.Ytpdhjjmhdoghjaa
open Go.RowKit

theorem Holds.form {w : World} {g : Option Nat} {v : Value} {n : Nat} {xs : List Value} (h : Holds w g 1 v n xs) :
    ∃ ao cap, v = .slice ao n cap ∧ ∀ j u, xs[j]? = some u → ∃ b off, ao = some ⟨b, off, none⟩ ∧ w.cell? ⟨b, off + j, none⟩ = some u := by
  obtain ⟨hl, hv⟩ := h
  rcases hv with ⟨_, rfl, rfl⟩ | ⟨b, off, cap, _, rfl, _, _, hc, _⟩
  · refine ⟨none, 0, rfl, fun j u hu => ?_⟩
    have : xs = [] := List.eq_nil_of_length_eq_zero (by simpa using hl)
    rw [this] at hu; simp at hu
  · exact ⟨_, cap, rfl, fun j u hu => ⟨b, off, rfl, hc j u hu⟩⟩

theorem sum_take (L : List (Int × Int)) (k : Nat) (h : k < L.length) : sumS (L.take (k + 1)) = sumS (L.take k) + L[k].1 ∧ sumG (L.take (k + 1)) = sumG (L.take k) + L[k].2 := by
  rw [List.take_succ_eq_append_getElem h, sumS_append, sumG_append, sumS_cons, sumG_cons, sumS_nil, sumG_nil]
  constructor <;> omega

theorem fine_take {L : List (Int × Int)} (h : ∀ p ∈ L, Fine p) (k : Nat) : ∀ p ∈ L.take k, Fine p := fun p hp => h p (List.mem_of_mem_take hp)

theorem add1_fine {n : Int} {L : List (Int × Int)} {p : Int × Int} (h : ∀ q ∈ L, Fine q) (hp : Fine p) : ∀ q ∈ add1 n L p, Fine q := by
  intro q hq
  unfold add1 at hq
  have : q ∈ L ++ [p] := by
    split at hq
    · exact hq
    · exact List.mem_of_mem_tail hq
  rcases List.mem_append.1 this with h' | h'
  · exact h q h'
  · rw [List.mem_singleton] at h'; exact h' ▸ hp

theorem add1_len {n : Int} {L : List (Int × Int)} {p : Int × Int} (h : (L.length : Int) ≤ n) : ((add1 n L p).length : Int) ≤ n := by
  unfold add1
  split
  · simp; omega
  · simp; omega

/-- The reference's run: the answer, how long above, how long below. -/
def refQ (s h l ab be : Int) : Int × Int := if h ≤ s then (ab + 1, 0) else if s ≤ l then (0, be + 1) else (0, 0)
def refE (d : Int) (q : Int × Int) : Int × Int × Int := if d ≤ q.1 then (1, 0, q.2) else if d ≤ q.2 then (-1, q.1, 0) else (0, q.1, q.2)

theorem refQ_le (s h l ab be : Int) (h1 : 0 ≤ ab ∧ ab ≤ 5000) (h2 : 0 ≤ be ∧ be ≤ 5000) : (0 ≤ (refQ s h l ab be).1 ∧ (refQ s h l ab be).1 ≤ 5001) ∧ 0 ≤ (refQ s h l ab be).2 ∧ (refQ s h l ab be).2 ≤ 5001 := by
  unfold refQ
  split
  · simp only; omega
  · split <;> (simp only; omega)

theorem Fr.setB {b : Nat} {a w : World} (h : Fr (fun k => k = b) a w) (i : Nat) (u : Value) : Fr (fun k => k = b) a (w.setCell ⟨b, i, none⟩ u) :=
  Fr.setCell (S := fun k => k = b) h (Or.inr rfl) u

theorem below_drewN {B : Nat} {a w : World} (h : Below B a w) (n : Nat) : Below B a (w.drewN n) := ⟨h.os, h.tape, h.output, h.size, h.block⟩

/-- What holds of the reference's memory. -/
def RMem (B b : Nat) (sh n h l d ab be : Int) (L : List (Int × Int)) (w w' : World) : Prop :=
  ∃ gs gg vs vg, Blk w' b (rCells sh n h l d vs vg ab be) 38 ∧ Holds w' gs 1 vs L.length (sents L) ∧ Holds w' gg 1 vg L.length (gots L) ∧
    (∀ k, gs = some k → B ≤ k ∧ k ≠ b) ∧ (∀ k, gg = some k → B ≤ k ∧ k ≠ b) ∧ (∀ k, gs = some k → gg ≠ some k) ∧ Below B w w'

set_option maxRecDepth 100000 in
set_option maxHeartbeats 2000000 in
theorem rtick_good (B b : Nat) (sh n h l d ab be x y : Int) (gs gg : Option Nat) (vs vg : Value) (L : List (Int × Int)) (w : World) (hB : B ≤ b) (h0 : B ≤ w.heap.size)
    (hb : Blk w b (rCells sh n h l d vs vg ab be) 38) (hs : Holds w gs 1 vs L.length (sents L)) (hg : Holds w gg 1 vg L.length (gots L))
    (d1 : ∀ k, gs = some k → B ≤ k ∧ k ≠ b) (d2 : ∀ k, gg = some k → B ≤ k ∧ k ≠ b) (d3 : ∀ k, gs = some k → gg ≠ some k)
    (hp : Fine (x, y)) (hn0 : 1 ≤ n) (hn : n ≤ 32) (hL : (L.length : Int) ≤ n)
    (hF : ∀ p ∈ L, Fine p) (hlh : 0 ≤ l ∧ l < h ∧ h ≤ 1000) (hd : 1 ≤ d ∧ d ≤ 4096) (hab : 0 ≤ ab ∧ ab ≤ 5000) (hbe : 0 ≤ be ∧ be ≤ 5000)
    (s : Int) (hsh : shv (sumS (add1 n L (x, y))) (sumG (add1 n L (x, y))) = s) (q : Int × Int) (hq : refQ s h l ab be = q) (r : Int × Int × Int) (hr : refE d q = r) :
    Calls Try.prog 15 #[.pointer (some ⟨b, 0, none⟩), .int .i64 x, .int .i64 y] w fun e w' => e = .returned (.tuple #[.int .i64 r.1, .int .i64 0]) ∧ RMem B b s n h l d r.2.1 r.2.2 (add1 n L (x, y)) w w' := by
  have HLF := Lib.hid (add1_fine (n := n) hF hp); clear hF
  have HLL := Lib.hid (add1_len (p := (x, y)) hL)
  have HQB := Lib.hid (hq ▸ refQ_le s h l ab be hab hbe)
  have HSH := Lib.hid hsh; clear hsh
  have HQ := Lib.hid hq; clear hq
  have HR := Lib.hid hr; clear hr
  obtain ⟨i3, hi, hz0, hz1, hz2⟩ := info_parts info3
  have hl : L.length ≤ 32 := by omega
  have c5 : w.cell? ⟨b, 5, none⟩ = some vs := hb.cell 5
  have HB := Lib.hid hb; clear hb
  have HS := Lib.hid hs; clear hs
  have HG := Lib.hid hg; clear hg
  have D1 := Lib.hid d1; clear d1
  have D2 := Lib.hid d2; clear d2
  have D3 := Lib.hid d3; clear d3
  have HP := Lib.hid hp
  unfold Fine at hp
  obtain ⟨p1, p2, p3, p4⟩ := hp
  simp only at p1 p2 p3 p4
  have HI := Lib.hid (And.intro hi (And.intro hz0 (And.intro hz1 hz2))); clear hi hz0 hz1 hz2
  go_enter Try.func15, Try.ntmps15
  go_wp2_with (at_builtin; refine wpList_append_holds _ rfl _ _ 22 rfl 3 i3 (.int .i64 0) 1 8 Try.underlying22 HI.out.1 HI.out.2.1 HI.out.2.2.1 HI.out.2.2.2 rfl (by decide) gs vs L.length (sents L) rfl (HS.out.keep ((Fr.refl (fun _ => False) w).alloc _) (fun _ _ h => h)) ⟨w.heap.size, 0, none⟩ 1 1 [.int .i64 x] rfl rfl (cell_one_new _ _ _) (by simp [Value.oneCell']) (by decide) (by unfold maxLen; omega) (by omega) ?_)
  intro b1 off1 cap1 w1 hh1 hor1 hlt1 hf1
  have hf0 : Fr (fun k => gs = some k) w (w.alloc (.cells #[.int .i64 x] 3)) := (Fr.refl _ w).alloc _
  have hf01 := hf0.trans hf1
  have hbn : ¬ gs = some b := fun h => (D1.out b h).2 rfl
  have hb1 : Blk w1 b (rCells sh n h l d vs vg ab be) 38 := HB.out.keep hf01 hbn
  have hg1 : Holds w1 gg 1 vg L.length (gots L) := HG.out.keep hf01 (fun k hk hs => D3.out k hs hk)
  have hB1 : B ≤ b1 := by
    rcases hor1 with h | h
    · exact (D1.out b1 h).1
    · have h9 : w.heap.size + 1 ≤ b1 := by simpa using h
      omega
  have hne1 : b1 ≠ b := by
    rcases hor1 with h | h
    · exact (D1.out b1 h).2
    · have h9 : w.heap.size + 1 ≤ b1 := by simpa using h
      have := HB.out.lt
      omega
  have hgg1 : gg ≠ some b1 := by
    rcases hor1 with h | h
    · exact D3.out b1 h
    · intro hk
      have h9 : w.heap.size + 1 ≤ b1 := by simpa using h
      have := HG.out.lt b1 hk
      omega
  have c5 : w1.cell? ⟨b, 5, none⟩ = some vs := hb1.cell 5
  have f5 : w1.frozen? ⟨b, 5, none⟩ = false := hb1.frozen 5
  have c6 : w1.cell? ⟨b, 6, none⟩ = some vg := hb1.cell 6
  have HB1 := Lib.hid hb1; clear hb1
  have HG1 := Lib.hid hg1; clear hg1
  have HH1 := Lib.hid hh1; clear hh1
  have HF1 := Lib.hid hf01; clear hf01 hf0 hf1 hor1
  have HGG1 := Lib.hid hgg1; clear hgg1
  go_wp2_with (at_builtin; refine wpList_append_holds _ rfl _ _ 22 rfl 3 i3 (.int .i64 0) 1 8 Try.underlying22 HI.out.1 HI.out.2.1 HI.out.2.2.1 HI.out.2.2.2 rfl (by decide) gg vg L.length (gots L) rfl (HG1.out.keep (((Fr.refl (fun k => k = b) w1).setB _ _).alloc _) (fun k hk h => (D2.out k hk).2 h)) ⟨w1.heap.size, 0, none⟩ 1 1 [.int .i64 y] rfl rfl (cell_one_at _ _ _ _ (size_setCell _ _ _)) (by simp [Value.oneCell']) (by decide) (by unfold maxLen; omega) (by omega) ?_)
  intro b2 off2 cap2 w2 hh2 hor2 hlt2 hf2
  have hfs : Fr (fun k => k = b) w1 (w1.setCell ⟨b, 5, none⟩ (.slice (some ⟨b1, off1, none⟩) (L.length + 1) cap1)) := fr_set _ _ _ _
  have hB1' := (HB1.out.set 5 (.slice (some ⟨b1, off1, none⟩) (L.length + 1) cap1)).alloc (.cells #[.int .i64 y] 3)
  have hb2 := hB1'.keep hf2 (fun h => (D2.out b h).2 rfl)
  have hs2 := (HH1.out.keep (hfs.alloc (.cells #[.int .i64 y] 3)) (fun k hk h => hne1 ((Option.some.inj hk).trans h))).keep hf2 (fun k hk hk2 => HGG1.out (hk2.trans hk.symm))
  have hor2' : gg = some b2 ∨ w1.heap.size + 1 ≤ b2 := by simpa [World.setCell] using hor2
  have hB2 : B ≤ b2 := by
    rcases hor2' with h | h
    · exact (D2.out b2 h).1
    · have := HF1.out.size
      omega
  have hne2 : b2 ≠ b := by
    rcases hor2' with h | h
    · exact (D2.out b2 h).2
    · have := HB1.out.lt
      omega
  have hne12 : b1 ≠ b2 := by
    rcases hor2' with h | h
    · intro hk
      exact HGG1.out (h.trans (by rw [hk]))
    · omega
  have hfin : Below B w w2 := by
    have e1 := HF1.out.below h0 (fun k hk hs => by have := (D1.out k hs).1; omega)
    have e2 := (hfs.alloc (.cells #[.int .i64 y] 3)).below (B := B) (Nat.le_trans h0 HF1.out.size) (fun k hk hs => by omega)
    have e3 := hf2.below (B := B) (Nat.le_trans h0 (Nat.le_trans HF1.out.size (hfs.alloc (.cells #[.int .i64 y] 3)).size)) (fun k hk hs => by have := (D2.out k hs).1; omega)
    exact (e1.trans e2).trans e3
  have c1 : w2.cell? ⟨b, 1, none⟩ = some (.int .i64 n) := hb2.cell 1
  have c5 : w2.cell? ⟨b, 5, none⟩ = some (.slice (some ⟨b1, off1, none⟩) (L.length + 1) cap1) := hb2.cell 5
  have c6 : w2.cell? ⟨b, 6, none⟩ = some vg := hb2.cell 6
  have f6 : w2.frozen? ⟨b, 6, none⟩ = false := hb2.frozen 6
  have f5' : w2.frozen? ⟨b, 5, none⟩ = false := hb2.frozen 5
  have hpost : Blk (w2.setCell ⟨b, 6, none⟩ (.slice (some ⟨b2, off2, none⟩) (L.length + 1) cap2)) b (rCells sh n h l d (.slice (some ⟨b1, off1, none⟩) (L.length + 1) cap1) (.slice (some ⟨b2, off2, none⟩) (L.length + 1) cap2) ab be) 38 ∧
      Holds (w2.setCell ⟨b, 6, none⟩ (.slice (some ⟨b2, off2, none⟩) (L.length + 1) cap2)) (some b1) 1 (.slice (some ⟨b1, off1, none⟩) (L.length + 1) cap1) (L.length + 1) (sents (L ++ [(x, y)])) ∧
      Holds (w2.setCell ⟨b, 6, none⟩ (.slice (some ⟨b2, off2, none⟩) (L.length + 1) cap2)) (some b2) 1 (.slice (some ⟨b2, off2, none⟩) (L.length + 1) cap2) (L.length + 1) (gots (L ++ [(x, y)])) ∧
      Below B w (w2.setCell ⟨b, 6, none⟩ (.slice (some ⟨b2, off2, none⟩) (L.length + 1) cap2)) := by
    have hk : Fr (fun k => k = b) w2 (w2.setCell ⟨b, 6, none⟩ (.slice (some ⟨b2, off2, none⟩) (L.length + 1) cap2)) := fr_set _ _ _ _
    refine ⟨?_, ?_, ?_, hfin.trans (hk.below (Nat.le_trans h0 hfin.size) (fun k hk hs => by omega))⟩
    · have := hb2.set 6 (.slice (some ⟨b2, off2, none⟩) (L.length + 1) cap2)
      simpa [rCells] using this
    · have := hs2.keep hk (fun k hk h => hne1 ((Option.some.inj hk).trans h))
      simpa [sents] using this
    · have := hh2.keep hk (fun k hk h => hne2 ((Option.some.inj hk).trans h))
      simpa [gots] using this
  have HPost := Lib.hid hpost
  clear hpost hfin hb2 hs2 hB1' hfs hf2 hh2 hor2 hor2' hlt2
  go_upto_region 5 with fail
  go_quiet (fail)
  go_upto_if 54 with fail
  go_cut [] from 11 (fun wc => RMem B b sh n h l d ab be (add1 n L (x, y)) w wc)
  case first =>
    by_cases hfull : (L.length : Int) < n
    · have hnl : ¬ n < (L.length : Int) + 1 := by omega
      have hadd : add1 n L (x, y) = L ++ [(x, y)] := by unfold add1; rw [if_pos hfull]
      have HA := Lib.hid hadd; clear hadd
      go_wp2_with fail
      go_meet
      case rel =>
        refine ⟨some b1, some b2, _, _, HPost.out.1, ?_, ?_, ?_, ?_, ?_, below_drewN HPost.out.2.2.2 nq⟩
        · have := HPost.out.2.1.drewN nq
          rw [HA.out]; simpa using this
        · have := HPost.out.2.2.1.drewN nq
          rw [HA.out]; simpa using this
        · intro k hk; cases hk; exact ⟨hB1, hne1⟩
        · intro k hk; cases hk; exact ⟨hB2, hne2⟩
        · intro k hk h; cases hk; exact hne12 (Option.some.inj h).symm
    · have hnl : n < (L.length : Int) + 1 := by omega
      have hadd : add1 n L (x, y) = (L ++ [(x, y)]).tail := by unfold add1; rw [if_neg hfull]
      have HA := Lib.hid hadd; clear hadd
      by_cases hc1 : cap1 = 1 <;> by_cases hc2 : cap2 = 1
      all_goals
        go_wp2
        go_meet
        case rel =>
          have hbel := below_drewN HPost.out.2.2.2 nq
          have hend := full_end B b b1 off1 cap1 b2 off2 cap2 sh n h l d ab be L (x, y) _ hB (Nat.le_trans h0 hbel.size) (HPost.out.1.drewN nq) (HPost.out.2.1.drewN nq) (HPost.out.2.2.1.drewN nq) hne1 hne2 _ _ rfl rfl
          simp only [hc1, hc2, if_true, if_false, Nat.sub_self] at hend hbel
          refine ⟨some b1, some b2, _, _, hend.1, ?_, ?_, ?_, ?_, ?_, hbel.trans hend.2.2.2⟩
          · rw [HA.out, tail_length]; exact hend.2.1
          · rw [HA.out, tail_length]; exact hend.2.2.1
          · intro k hk; cases hk; exact ⟨hB1, hne1⟩
          · intro k hk; cases hk; exact ⟨hB2, hne2⟩
          · intro k hk h; cases hk; exact hne12 (Option.some.inj h).symm
  case rest =>
    obtain ⟨gs', gg', vs', vg', hb', hs', hg', e1, e2, e3, hbel⟩ := hcut
    clear HB HS HG D1 D2 D3 HP HB1 HG1 HH1 HF1 HGG1 HPost HI c1 c5 c6 f6 f5' f5
    clear hB1 hB2 hne1 hne2 hne12 hbn hlt1
    have hML : (add1 n L (x, y)).length ≤ 32 := by have := HLL.out; omega
    generalize hM : add1 n L (x, y) = M at *
    have HM := Lib.hid hM; clear hM
    obtain ⟨sa, cs, rfl, hcs⟩ := hs'.form
    obtain ⟨ag, cg, rfl, hcg⟩ := hg'.form
    have c5 : wc.cell? ⟨b, 5, none⟩ = some (.slice sa M.length cs) := hb'.cell 5
    have c6 : wc.cell? ⟨b, 6, none⟩ = some (.slice ag M.length cg) := hb'.cell 6
    have c0 : wc.cell? ⟨b, 0, none⟩ = some (.int .i64 sh) := hb'.cell 0
    have f0 : wc.frozen? ⟨b, 0, none⟩ = false := hb'.frozen 0
    have HCS := Lib.hid hcs; clear hcs
    have HCG := Lib.hid hcg; clear hcg
    have HB := Lib.hid hb'; clear hb'
    have HS := Lib.hid hs'; clear hs'
    have HG := Lib.hid hg'; clear hg'
    have E1 := Lib.hid e1; clear e1
    have E2 := Lib.hid e2; clear e2
    have E3 := Lib.hid e3; clear e3
    have HBel := Lib.hid hbel; clear hbel
    go_wp2_with fail
    go_loop [8, 9, 10] (fun x y i => ∃ k : Nat, k ≤ M.length ∧ i = .int .i64 k ∧ x = .int .i64 (sumS (M.take k)) ∧ y = .int .i64 (sumG (M.take k))) (fun _ _ i => M.length - (intOf i).toNat)
    case atStart => exact ⟨0, Nat.zero_le _, rfl, rfl, rfl⟩
    case round =>
      obtain ⟨k, hk, rfl, rfl, rfl⟩ := hrel
      have hbd := sums_bound (M.take k) (fine_take HLF.out k)
      have hbl : (M.take k).length ≤ 32 := Nat.le_trans (List.length_take_le _ _) (by omega)
      by_cases hlt : k < M.length
      · obtain ⟨b1, o1, rfl, d1⟩ := HCS.out k (.int .i64 M[k].1) (by simp [sents, hlt])
        obtain ⟨b2, o2, rfl, d2⟩ := HCG.out k (.int .i64 M[k].2) (by simp [gots, hlt])
        have hf : Fine M[k] := HLF.out _ (List.getElem_mem hlt)
        unfold Fine at hf
        obtain ⟨f1, f2, f3, f4⟩ := hf
        have hst := Lib.hid (sum_take M k hlt)
        generalize hX : sumS (M.take k) = X at *
        generalize hY : sumG (M.take k) = Y at *
        generalize hP : M[k].1 = P at *
        generalize hR : M[k].2 = R at *
        clear hX hY hP hR
        obtain ⟨e1, e2, e3, e4⟩ := hbd
        go_wp2
        go_round
        case rel => exact ⟨k + 1, by omega, by go_num, by rw [hst.out.1], by rw [hst.out.2]⟩
        case measure => simp [intOf]; omega
      · have hkk : k = M.length := by omega
        subst hkk
        rw [List.take_length] at *
        generalize sumS M = X at *
        generalize sumG M = Y at *
        obtain ⟨e1, e2, e3, e4⟩ := hbd
        have e5 : X ≤ 100000000000 := by omega
        have fS := shv_facts X Y e1 e5
        have HSG := Lib.hid (And.intro fS HSH.out); clear fS HSH
        clear e3 e4 hbl
        go_upto_if 102 with fail
        obtain ⟨wA, rfl⟩ : ∃ wA : World, wA = wc := ⟨_, rfl⟩
        go_cut [] from 98 (fun w3 => Blk w3 b (rCells s n h l d (.slice sa M.length cs) (.slice ag M.length cg) ab be) 38 ∧ Fr (fun k => k = b) wA w3)
        case first =>
          by_cases hz : 0 < Y
          · obtain ⟨tq, q0, q3, hsh⟩ := HSG.out.1 hz
            have hs2 := hsh.symm.trans HSG.out.2
            have hne : (Y == 0) = false := by rw [beq_eq_false_iff_ne]; omega
            have HS2 := Lib.hid hs2; clear hs2 hsh
            generalize 1000 * X / Y = Q at *
            have tS : 0 ≤ 1000 * X ∧ 1000 * X ≤ 100000000000000 := by omega
            by_cases hq : Q < 1000
            · have hv : s = Q := by have := HS2.out; omega
              have HV := Lib.hid hv; clear hv
              go_wp2
              go_meet
              case rel =>
                refine ⟨?_, ((Fr.refl _ _).setB _ _).setB _ _⟩
                have := (HB.out.set 0 (.int .i64 0)).set 0 (.int .i64 Q)
                rw [HV.out]
                simpa [rCells] using this
            · have hv : s = 1000 := by have := HS2.out; omega
              have HV := Lib.hid hv; clear hv
              go_wp2
              go_meet
              case rel =>
                refine ⟨?_, ((Fr.refl _ _).setB _ _).setB _ _⟩
                have := (HB.out.set 0 (.int .i64 0)).set 0 (.int .i64 1000)
                rw [HV.out]
                simpa [rCells] using this
          · have hv : s = 0 := by have := HSG.out.2; unfold shv at this; rw [if_neg hz] at this; exact this.symm
            have HV := Lib.hid hv; clear hv
            go_wp2
            go_meet
            case rel =>
              refine ⟨?_, (Fr.refl _ _).setB _ _⟩
              have := HB.out.set 0 (.int .i64 0)
              rw [HV.out]
              simpa [rCells] using this
        case rest =>
          obtain ⟨hb3, hf3⟩ := hcut
          obtain ⟨wB, rfl⟩ : ∃ wB : World, wB = wc := ⟨_, rfl⟩
          clear c0 c5 c6 f0 HSG
          have c0 : wB.cell? ⟨b, 0, none⟩ = some (.int .i64 s) := hb3.cell 0
          have c2 : wB.cell? ⟨b, 2, none⟩ = some (.int .i64 h) := hb3.cell 2
          have c3 : wB.cell? ⟨b, 3, none⟩ = some (.int .i64 l) := hb3.cell 3
          have c7 : wB.cell? ⟨b, 7, none⟩ = some (.int .i64 ab) := hb3.cell 7
          have c8 : wB.cell? ⟨b, 8, none⟩ = some (.int .i64 be) := hb3.cell 8
          have f7 : wB.frozen? ⟨b, 7, none⟩ = false := hb3.frozen 7
          have f8 : wB.frozen? ⟨b, 8, none⟩ = false := hb3.frozen 8
          have HB3 := Lib.hid hb3; clear hb3
          have HF3 := Lib.hid hf3; clear hf3
          obtain ⟨hlh1, hlh2, hlh3⟩ := hlh
          obtain ⟨hab1, hab2⟩ := hab
          obtain ⟨hbe1, hbe2⟩ := hbe
          go_upto_block 2 with fail
          go_cut [] from 111 (fun w4 => Blk w4 b (rCells s n h l d (.slice sa M.length cs) (.slice ag M.length cg) q.1 q.2) 38 ∧ Fr (fun k => k = b) wB w4)
          case first =>
            by_cases h1 : h ≤ s
            · have hqv : q = (ab + 1, 0) := by rw [← HQ.out]; unfold refQ; rw [if_pos h1]
              have HQV := Lib.hid hqv; clear hqv
              go_wp2_with fail
              go_quiet (fail)
              go_wp2
              go_meet
              case rel =>
                refine ⟨?_, (((Fr.refl _ _).drewN nq).setB _ _).setB _ _⟩
                have := ((HB3.out.drewN nq).set 7 (.int .i64 (ab + 1))).set 8 (.int .i64 0)
                rw [HQV.out]
                simpa [rCells] using this
            · by_cases h2 : s ≤ l
              · have hqv : q = (0, be + 1) := by rw [← HQ.out]; unfold refQ; rw [if_neg h1, if_pos h2]
                have HQV := Lib.hid hqv; clear hqv
                go_wp2_with fail
                go_quiet (fail)
                go_wp2_with fail
                go_quiet (fail)
                go_wp2
                go_meet
                case rel =>
                  refine ⟨?_, (((Fr.refl _ _).drewN _).setB _ _).setB _ _⟩
                  have := ((HB3.out.drewN 0).set 8 (.int .i64 (be + 1))).set 7 (.int .i64 0)
                  rw [HQV.out]
                  exact Blk.of (by simpa [rCells] using this) (by simp only [heap_set, heap_drewN])
              · have hqv : q = (0, 0) := by rw [← HQ.out]; unfold refQ; rw [if_neg h1, if_neg h2]
                have HQV := Lib.hid hqv; clear hqv
                go_wp2_with fail
                go_quiet (fail)
                go_wp2_with fail
                go_quiet (fail)
                go_wp2
                go_meet
                case rel =>
                  refine ⟨?_, (((Fr.refl _ _).drewN _).setB _ _).setB _ _⟩
                  have := ((HB3.out.drewN 0).set 7 (.int .i64 0)).set 8 (.int .i64 0)
                  rw [HQV.out]
                  exact Blk.of (by simpa [rCells] using this) (by simp only [heap_set, heap_drewN])
          case rest =>
            obtain ⟨hb4, hf4⟩ := hcut
            obtain ⟨wC, rfl⟩ : ∃ wC : World, wC = wc := ⟨_, rfl⟩
            clear c0 c2 c3 c7 c8 f7 f8
            have hqb := HQB.out
            obtain ⟨q1, q2⟩ := q
            simp only at hqb hb4
            obtain ⟨⟨u1, u2⟩, u3, u4⟩ := hqb
            have c4 : wC.cell? ⟨b, 4, none⟩ = some (.int .i64 d) := hb4.cell 4
            have c7 : wC.cell? ⟨b, 7, none⟩ = some (.int .i64 q1) := hb4.cell 7
            have c8 : wC.cell? ⟨b, 8, none⟩ = some (.int .i64 q2) := hb4.cell 8
            have f7 : wC.frozen? ⟨b, 7, none⟩ = false := hb4.frozen 7
            have f8 : wC.frozen? ⟨b, 8, none⟩ = false := hb4.frozen 8
            have hf5 := HF3.out.trans hf4
            have hrm : ∀ (a2 b2 : Int) (wx : World), Blk wx b (rCells s n h l d (.slice sa M.length cs) (.slice ag M.length cg) a2 b2) 38 → Fr (fun k => k = b) wC wx → RMem B b s n h l d a2 b2 M w wx := fun a2 b2 wx hbx hfx =>
              ⟨gs', gg', _, _, hbx, HS.out.keep (hf5.trans hfx) (fun k hk h => (E1.out k hk).2 h), HG.out.keep (hf5.trans hfx) (fun k hk h => (E2.out k hk).2 h), E1.out, E2.out, E3.out,
                HBel.out.trans ((hf5.trans hfx).below (Nat.le_trans h0 HBel.out.size) (fun k hk h => by omega))⟩
            have HRM := Lib.hid hrm; clear hrm
            have HB4 := Lib.hid hb4; clear hb4
            clear hf4 hf5 HF3 HB3 HB HS HG HBel E1 E2 E3 HQ HQB
            obtain ⟨hd1, hd2⟩ := hd
            by_cases g1 : d ≤ q1
            · have hrv : r = (1, 0, q2) := by rw [← HR.out]; unfold refE; rw [if_pos g1]
              have HRV := Lib.hid hrv; clear hrv
              go_wp2_with fail
              go_quiet (fail)
              go_wp2
              go_ret2
              rw [HRV.out, HM.out]
              refine ⟨rfl, HRM.out _ _ _ ?_ (((Fr.refl _ _).drewN nq).setB _ _)⟩
              have := (HB4.out.drewN nq).set 7 (.int .i64 0)
              simpa [rCells] using this
            · by_cases g2 : d ≤ q2
              · have hrv : r = (-1, q1, 0) := by rw [← HR.out]; unfold refE; rw [if_neg g1, if_pos g2]
                have HRV := Lib.hid hrv; clear hrv
                go_wp2_with fail
                go_quiet (fail)
                go_wp2_with fail
                go_quiet (fail)
                go_wp2
                go_ret2
                rw [HRV.out, HM.out]
                refine ⟨rfl, HRM.out _ _ _ ?_ (((Fr.refl _ _).drewN _).setB _ _)⟩
                have := (HB4.out.drewN 0).set 8 (.int .i64 0)
                exact Blk.of (by simpa [rCells] using this) (by simp only [heap_set, heap_drewN])
              · have hrv : r = (0, q1, q2) := by rw [← HR.out]; unfold refE; rw [if_neg g1, if_neg g2]
                have HRV := Lib.hid hrv; clear hrv
                go_wp2_with fail
                go_quiet (fail)
                go_wp2_with fail
                go_quiet (fail)
                go_wp2
                go_ret2
                rw [HRV.out, HM.out]
                refine ⟨rfl, HRM.out _ _ _ ?_ (((Fr.refl _ _).drewN _).drewN _)⟩
                exact Blk.of HB4.out (by simp only [heap_drewN])
end Go.Proofs.Ytpdhjjmhdoghjaa
