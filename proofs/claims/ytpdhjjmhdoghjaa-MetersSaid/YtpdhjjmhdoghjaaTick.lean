/- The walks over New, Tick and Share of package meter, said of the last ticks. -/
import Derived.Test.YtpdhjjmhdoghjaaAdd
import Derived.Deep.RegionHeld3
namespace Go.Proofs.Ytpdhjjmhdoghjaa
open Go.RowKit

/-- The share that the last ticks make. -/
def shr (L : List (Int × Int)) : Int := shv (sumS L) (sumG L)

/-- Above (1), below (-1), or neither (0). -/
def dirF (s h l : Int) : Int := if h ≤ s then 1 else if s ≤ l then -1 else 0

/-- The meter at block b, its ring at block r; the last ticks L; the run's way and length. -/
def IsM (w : World) (r b : Nat) (h l d : Int) (L : List (Int × Int)) (way long : Int) : Prop :=
  ∃ (R : List (Int × Int)) (i : Nat), R.length ≤ 32 ∧ i < R.length ∧ rot R i = L ∧ (∀ p ∈ L, Fine p) ∧ r ≠ b ∧ (1 ≤ h ∧ h ≤ 1000 ∧ 0 ≤ l ∧ l < h ∧ 1 ≤ d ∧ d ≤ 4096) ∧ (0 ≤ long ∧ long ≤ 4096) ∧
    Blk w b (mCells way long h l d r R.length i (sumS L) (sumG L) (shr L)) 53 ∧ Blk w r (ringArr R) 51

theorem IsM.keep {w w' : World} {r b : Nat} {h l d way long : Int} {L : List (Int × Int)} {S : Nat → Prop} (hm : IsM w r b h l d L way long) (hf : Fr S w w') (h1 : ¬ S r) (h2 : ¬ S b) : IsM w' r b h l d L way long := by
  obtain ⟨R, i, a1, a2, a3, a4, a5, a6, a7, hb, hr⟩ := hm
  exact ⟨R, i, a1, a2, a3, a4, a5, a6, a7, hb.keep hf h2, hr.keep hf h1⟩

theorem IsM.drewN {w : World} {r b : Nat} {h l d way long : Int} {L : List (Int × Int)} (n : Nat) (hm : IsM w r b h l d L way long) : IsM (w.drewN n) r b h l d L way long := hm

theorem IsM.lt {w : World} {r b : Nat} {h l d way long : Int} {L : List (Int × Int)} (hm : IsM w r b h l d L way long) : r < w.heap.size ∧ b < w.heap.size := by
  obtain ⟨R, i, a1, a2, a3, a4, a5, a6, a7, hb, hr⟩ := hm
  exact ⟨hr.lt, hb.lt⟩

theorem IsM.ne {w : World} {r b : Nat} {h l d way long : Int} {L : List (Int × Int)} (hm : IsM w r b h l d L way long) : r ≠ b := by
  obtain ⟨R, i, a1, a2, a3, a4, a5, _⟩ := hm
  exact a5

theorem IsM.hold {w : World} {r b : Nat} {h l d way long : Int} {L : List (Int × Int)} (hm : IsM w r b h l d L way long) : w.cell? ⟨b, 4, none⟩ = some (.int .i64 d) := by
  obtain ⟨R, i, a1, a2, a3, a4, a5, a6, a7, hb, hr⟩ := hm
  exact hb.cell 4

theorem IsM.fine {w : World} {r b : Nat} {h l d way long : Int} {L : List (Int × Int)} (hm : IsM w r b h l d L way long) : ∀ p ∈ L, Fine p := by
  obtain ⟨R, i, a1, a2, a3, a4, _⟩ := hm
  exact a4

theorem add_ok {w : World} {r b : Nat} {h l d way long : Int} {L : List (Int × Int)} (hm : IsM w r b h l d L way long) (x y : Int) (hp : Fine (x, y)) :
    Calls Try.prog 18 #[.pointer (some ⟨b, 0, none⟩), .agg #[.int .i64 x, .int .i64 y]] w fun e w' => e = .returned (.tuple #[]) ∧ IsM w' r b h l d (push L (x, y)) way long ∧ Fr (fun k => k = r ∨ k = b) w w' := by
  obtain ⟨R, i, a1, a2, a3, a4, a5, a6, a7, hb, hr⟩ := hm
  have hl : L.length = R.length := by rw [← a3, length_rot]
  have hs := sums_bound L a4
  have hq := ringArr_get R i a2
  have hf : Fine R[i] := a4 _ (a3 ▸ mem_rot (List.getElem_mem a2))
  have hp' := hp
  unfold Fine at hf hp'
  have hset := rot_set R i (x, y) a2
  rw [a3] at hset
  have hsum := sum_set R i (x, y) a2
  have hr1 := sum_rot R i
  have hr2 := sum_rot (R.set i (x, y)) ((i + 1) % R.length)
  rw [a3] at hr1
  rw [hset] at hr2
  have e1 : sumS (push L (x, y)) = sumS L + (x - R[i].1) := by rw [hr2.1, hsum.1, hr1.1]
  have e2 : sumG (push L (x, y)) = sumG L + (y - R[i].2) := by rw [hr2.2, hsum.2, hr1.2]
  have hs2 := sums_bound (push L (x, y)) (fine_push a4 hp)
  refine (add_good b r R.length i way long h l d (shr L) (sumS L) (sumG L) x y R[i].1 R[i].2 R w hb hr a5 a2 a1 a2 hq.1 hq.2 ⟨by omega, by omega⟩ ⟨by omega, by omega⟩ ⟨by omega, by omega⟩ ⟨by omega, by omega⟩ ⟨by omega, by omega⟩ ⟨by omega, by omega⟩ (by omega) (by omega)).mono fun e w' ⟨he, hb', hr', hf'⟩ => ⟨he, ?_, hf'⟩
  refine ⟨R.set i (x, y), (i + 1) % R.length, by simpa using a1, by simpa using Nat.mod_lt _ (by omega), hset, fine_push a4 hp, a5, a6, a7, ?_, hr'⟩
  unfold shr
  rw [e1, e2, List.length_set]
  exact hb'

theorem turn_long (x d way long : Int) (h1 : 1 ≤ d ∧ d ≤ 4096) (hl : 0 ≤ long ∧ long ≤ 4096) : 0 ≤ (turnF x d way long).2.2 ∧ (turnF x d way long).2.2 ≤ 4096 := by
  unfold turnF
  split
  · simp only; split <;> omega
  · split
    · split <;> simp only <;> omega
    · split <;> simp only <;> omega

theorem turn_is {w : World} {r b : Nat} {h l d way long : Int} {L : List (Int × Int)} (hm : IsM w r b h l d L way long) (x : Int) :
    Calls Try.prog 19 #[.pointer (some ⟨b, 0, none⟩), .int .i64 x, .int .i64 d] w fun e w' => e = .returned (.int .i64 (turnF x d way long).1) ∧
      IsM w' r b h l d L (turnF x d way long).2.1 (turnF x d way long).2.2 ∧ Fr (fun k => k = r ∨ k = b) w w' := by
  obtain ⟨R, i, a1, a2, a3, a4, a5, a6, a7, hb, hr⟩ := hm
  have ht := turn_long x d way long ⟨a6.2.2.2.2.1, a6.2.2.2.2.2⟩ a7
  refine (turn_ok b x way long h l d r R.length i _ _ _ w hb ⟨a7.1, by omega⟩).mono fun e w' ⟨he, hb', hf⟩ => ⟨he, ?_, hf.mono fun k _ hk => Or.inr hk⟩
  exact ⟨R, i, a1, a2, a3, a4, a5, a6, ht, hb', hr.keep hf a5⟩

set_option maxHeartbeats 400000 in
theorem tick_bad (b : Nat) (x y : Int) (w : World) (hx : x < 0 ∨ 2147483647 < x ∨ y < 0 ∨ 2147483647 < y) :
    Calls Try.prog 14 #[.pointer (some ⟨b, 0, none⟩), .int .i64 x, .int .i64 y] w fun e w' => e = .returned (.tuple #[.int .i64 0, .int .i64 2300]) ∧ w = w' := by
  go_enter Try.func14, Try.ntmps14
  go_wp2
  all_goals go_ret2
  all_goals exact ⟨rfl, rfl⟩

set_option maxHeartbeats 1000000 in
theorem tick_ok {w : World} {r b : Nat} {h l d way long : Int} {L : List (Int × Int)} (hm : IsM w r b h l d L way long) (x y : Int) (hp : Fine (x, y)) (t : Int × Int × Int) (ht : turnF (dirF (shr (push L (x, y))) h l) d way long = t) :
    Calls Try.prog 14 #[.pointer (some ⟨b, 0, none⟩), .int .i64 x, .int .i64 y] w fun e w' => e = .returned (.tuple #[.int .i64 t.1, .int .i64 0]) ∧
      IsM w' r b h l d (push L (x, y)) t.2.1 t.2.2 ∧ Fr (fun k => k = r ∨ k = b) w w' := by
  have HM := Lib.hid hm; clear hm
  have HP := Lib.hid hp
  unfold Fine at hp
  obtain ⟨p1, p2, p3, p4⟩ := hp
  simp only at p1 p2 p3 p4
  have HT := Lib.hid ht; clear ht
  go_enter Try.func14, Try.ntmps14
  go_wp2_with fail
  refine (add_ok HM.out x y HP.out).mono ?_
  rintro e w1 ⟨rfl, hm1, hf1⟩
  have HM1 := Lib.hid hm1
  have HF1 := Lib.hid hf1; clear hf1
  obtain ⟨R, i, a1, a2, a3, a4, a5, a6, a7, hb, hr⟩ := hm1
  have c2 : w1.cell? ⟨b, 2, none⟩ = some (.int .i64 h) := hb.cell 2
  have c3 : w1.cell? ⟨b, 3, none⟩ = some (.int .i64 l) := hb.cell 3
  have c4 : w1.cell? ⟨b, 4, none⟩ = some (.int .i64 d) := hb.cell 4
  have c9 : w1.cell? ⟨b, 9, none⟩ = some (.int .i64 (shr (push L (x, y)))) := hb.cell 9
  clear a1 a2 a3 a4 a7 hb hr
  generalize hs : shr (push L (x, y)) = s at *
  have hd : dirF s h l = (if h ≤ s then 1 else if s ≤ l then -1 else 0) := rfl
  have HD := Lib.hid hd; clear hd hs
  obtain ⟨b1, b2, b3, b4, b5, b6⟩ := a6
  go_wp2_with fail
  go_quiet (fail)
  have c4 : (w1.drewN nq).cell? ⟨b, 4, none⟩ = some (.int .i64 d) := c4
  have c3 : (w1.drewN nq).cell? ⟨b, 3, none⟩ = some (.int .i64 l) := c3
  have c9 : (w1.drewN nq).cell? ⟨b, 9, none⟩ = some (.int .i64 s) := c9
  have HW : Hid (IsM (w1.drewN nq) r b h l d (push L (x, y)) way long) := Lib.hid (HM1.out.drewN nq)
  have HFW : Hid (Fr (fun k => k = r ∨ k = b) w (w1.drewN nq)) := Lib.hid (HF1.out.drewN nq)
  clear HM1 HF1 c2
  generalize w1.drewN nq = w2 at *
  by_cases h1 : h ≤ s
  · have hdd : dirF s h l = 1 := by rw [HD.out, if_pos h1]
    have HT1 : Hid (turnF 1 d way long = t) := Lib.hid (hdd ▸ HT.out)
    clear HD HT hdd
    go_wp2_with fail
    go_region_held3 (fun w' => w'.cell? ⟨b, 4, none⟩ = some (.int .i64 d)) (first | exact c4 | exact c4') ((go_at_call 19; refine (turn_is (HW.out.drewN 1) (1)).mono ?_; rintro e w4 ⟨rfl, hm3, hf3⟩; rw [HT1.out] at hm3; rw [HT1.out]; have c4' := hm3.hold; have HM3 := Lib.hid hm3; have HF3 := Lib.hid ((HFW.out.drewN 1).trans (hf3.mono fun _ _ h => h)); clear hm3 hf3))
    go_wp2_with fail
    go_ret2
    exact ⟨rfl, HM3.out, HF3.out⟩
  · go_wp2_with fail
    go_quiet (fail)
    have c4 : (w2.drewN nq).cell? ⟨b, 4, none⟩ = some (.int .i64 d) := c4
    have HW : Hid (IsM (w2.drewN nq) r b h l d (push L (x, y)) way long) := Lib.hid (HW.out.drewN nq)
    have HFW : Hid (Fr (fun k => k = r ∨ k = b) w (w2.drewN nq)) := Lib.hid (HFW.out.drewN nq)
    generalize w2.drewN nq = w5 at *
    by_cases h2 : s ≤ l
    · have hdd : dirF s h l = -1 := by rw [HD.out, if_neg (by omega), if_pos h2]
      have HT1 : Hid (turnF (-1) d way long = t) := Lib.hid (hdd ▸ HT.out)
      clear HD HT hdd
      go_wp2_with fail
      go_region_held3 (fun w' => w'.cell? ⟨b, 4, none⟩ = some (.int .i64 d)) (first | exact c4 | exact c4') ((go_at_call 19; refine (turn_is (HW.out.drewN 1) (-1)).mono ?_; rintro e w4 ⟨rfl, hm3, hf3⟩; rw [HT1.out] at hm3; rw [HT1.out]; have c4' := hm3.hold; have HM3 := Lib.hid hm3; have HF3 := Lib.hid ((HFW.out.drewN 1).trans (hf3.mono fun _ _ h => h)); clear hm3 hf3))
      go_wp2_with fail
      go_ret2
      exact ⟨rfl, HM3.out, HF3.out⟩
    · have hdd : dirF s h l = 0 := by rw [HD.out, if_neg (by omega), if_neg (by omega)]
      have HT1 : Hid (turnF 0 d way long = t) := Lib.hid (hdd ▸ HT.out)
      clear HD HT hdd
      go_wp2_with fail
      go_region_held3 (fun w' => w'.cell? ⟨b, 4, none⟩ = some (.int .i64 d)) (first | exact c4 | exact c4') ((go_at_call 19; refine (turn_is (HW.out.drewN 1) (0)).mono ?_; rintro e w4 ⟨rfl, hm3, hf3⟩; rw [HT1.out] at hm3; rw [HT1.out]; have c4' := hm3.hold; have HM3 := Lib.hid hm3; have HF3 := Lib.hid ((HFW.out.drewN 1).trans (hf3.mono fun _ _ h => h)); clear hm3 hf3))
      go_wp2_with fail
      go_ret2
      exact ⟨rfl, HM3.out, HF3.out⟩

set_option maxHeartbeats 400000 in
theorem share_ok {w : World} {r b : Nat} {h l d way long : Int} {L : List (Int × Int)} (hm : IsM w r b h l d L way long) (s : Int) (hs : shr L = s) :
    Calls Try.prog 16 #[.pointer (some ⟨b, 0, none⟩)] w fun e w' => e = .returned (.int .i64 s) ∧ w = w' := by
  obtain ⟨R, i, a1, a2, a3, a4, a5, a6, a7, hb, hr⟩ := hm
  have c9 : w.cell? ⟨b, 9, none⟩ = some (.int .i64 s) := (hb.cell 9).trans (by rw [← hs]; rfl)
  clear a1 a2 a3 a4 a5 a6 a7 hb hr hs
  go_enter Try.func16, Try.ntmps16
  go_wp2
  go_ret
  exact ⟨rfl, rfl⟩

def mayM (n h l d : Int) : Bool := decide (1 ≤ n) && decide (n ≤ 32) && decide (1 ≤ h) && decide (h ≤ 1000) && decide (0 ≤ l) && decide (l < h) && decide (1 ≤ d) && decide (d ≤ 4096)

set_option maxHeartbeats 400000 in
theorem may_any (n h l d : Int) (w : World) : Calls Try.prog 17 #[.int .i64 n, .int .i64 h, .int .i64 l, .int .i64 d] w fun e w' => e = .returned (.bool (mayM n h l d)) ∧ w = w' := by
  go_enter Try.func17, Try.ntmps17
  go_wp2
  all_goals go_ret
  all_goals exact ⟨ret_bool (by rw [Bool.eq_iff_iff]; simp [mayM]; omega), rfl⟩

theorem may_is (n h l d : Int) (w : World) (v : Bool) (hv : mayM n h l d = v) : Calls Try.prog 17 #[.int .i64 n, .int .i64 h, .int .i64 l, .int .i64 d] w fun e w' => e = .returned (.bool v) ∧ w = w' := by
  subst hv
  exact may_any n h l d w

set_option maxHeartbeats 400000 in
theorem new_bad (n h l d : Int) (w : World) (hv : mayM n h l d = false) :
    Calls Try.prog 10 #[.int .i64 n, .int .i64 h, .int .i64 l, .int .i64 d] w fun e w' => e = .returned (.tuple #[.pointer none, .int .i64 2300]) ∧ w = w' := by
  have HV := Lib.hid hv; clear hv
  go_enter Try.func10, Try.ntmps10
  go_wp2_with (go_at_call 17; refine (may_is _ _ _ _ _ false HV.out).mono ?_; rintro e w' ⟨rfl, rfl⟩)
  go_ret2
  exact ⟨rfl, rfl⟩

theorem info51 : (Try.prog.info? 51).map (fun i => (i.zero, i.size, i.bytes)) = some (some (.agg #[.int .i64 0, .int .i64 0]), 2, 16) := by kernel_rfl

theorem make_ring (n : Nat) (hn : n ≤ 1000) (w : World) :
    (Instr.makeSlice 47 (.int .i64 (n : Int)) (.int .i64 (n : Int))).run Try.prog w = .ok (.slice (some ⟨w.heap.size, 0, none⟩) n n) (w.alloc (.cells (madeCells #[.int .i64 0, .int .i64 0] (n * 2)) 51)) := by
  obtain ⟨i, hi, hz, hs, hb⟩ := info_parts info51
  have hr := run_make (P := Try.prog) w 47 51 i (.agg #[.int .i64 0, .int .i64 0]) Try.underlying47 hi hz .i64 .i64 n n (by omega) (Int.le_refl _) (by rw [hb]; omega) (by omega)
  simp only [Int.toNat_natCast, hs] at hr
  exact hr

set_option maxHeartbeats 400000 in
theorem new_good (n : Nat) (h l d : Int) (w : World) (hn : n ≤ 32) (hv : mayM n h l d = true) :
    Calls Try.prog 10 #[.int .i64 (n : Int), .int .i64 h, .int .i64 l, .int .i64 d] w fun e w' => e = .returned (.tuple #[.pointer (some ⟨w.heap.size + 1, 0, none⟩), .int .i64 0]) ∧
      w' = (w.alloc (.cells (madeCells #[.int .i64 0, .int .i64 0] (n * 2)) 51)).alloc (.cells (mCells 0 0 h l d w.heap.size n 0 0 0 0) 53) := by
  have hmk := fun wx => make_ring n (by omega) wx
  have HV := Lib.hid hv; clear hv
  go_enter Try.func10, Try.ntmps10
  go_wp2_with (go_at_call 17; refine (may_is _ _ _ _ _ true HV.out).mono ?_; rintro e w' ⟨rfl, rfl⟩)
  go_ret2
  exact ⟨rfl, rfl⟩

theorem may_bounds {n h l d : Int} (hv : mayM n h l d = true) : (1 ≤ n ∧ n ≤ 32) ∧ 1 ≤ h ∧ h ≤ 1000 ∧ 0 ≤ l ∧ l < h ∧ 1 ≤ d ∧ d ≤ 4096 := by
  unfold mayM at hv
  simp only [Bool.and_eq_true, decide_eq_true_eq] at hv
  omega

theorem shr_zero (n : Nat) : shr (List.replicate n (0, 0)) = 0 := by
  unfold shr
  rw [sumS_replicate, sumG_replicate]
  rfl

theorem new_ok (n h l d : Int) (w : World) (hv : mayM n h l d = true) :
    Calls Try.prog 10 #[.int .i64 n, .int .i64 h, .int .i64 l, .int .i64 d] w fun e w' => ∃ r b, e = .returned (.tuple #[.pointer (some ⟨b, 0, none⟩), .int .i64 0]) ∧
      IsM w' r b h l d (List.replicate n.toNat (0, 0)) 0 0 ∧ w.heap.size ≤ r ∧ w.heap.size ≤ b ∧ Same w w' := by
  obtain ⟨⟨h1, h2⟩, hb⟩ := may_bounds hv
  obtain ⟨m, rfl⟩ := Int.eq_ofNat_of_zero_le (a := n) (by omega)
  refine (new_good m h l d w (by omega) hv).mono fun e w' ⟨he, hw⟩ => ⟨w.heap.size, w.heap.size + 1, he, ?_, Nat.le_refl _, by omega, ?_⟩
  · subst hw
    refine ⟨List.replicate m (0, 0), 0, by simp; omega, by simp; omega, by simp [rot], ?_, by omega, hb, by omega, ?_, ?_⟩
    · intro p hp
      have := List.eq_of_mem_replicate hp
      subst this
      unfold Fine; omega
    · have hs : (w.alloc (.cells (madeCells #[.int .i64 0, .int .i64 0] (m * 2)) 51)).heap.size = w.heap.size + 1 := by simp
      have := Blk.new (w.alloc (.cells (madeCells #[.int .i64 0, .int .i64 0] (m * 2)) 51)) (mCells 0 0 h l d w.heap.size m 0 0 0 0) 53
      rw [hs] at this
      simpa [sumS_replicate, sumG_replicate, shr_zero] using this
    · rw [← made_ring]
      exact (Blk.new _ _ _).alloc _
  · subst hw
    exact ((Fr.refl _ _).alloc _).alloc _

end Go.Proofs.Ytpdhjjmhdoghjaa
