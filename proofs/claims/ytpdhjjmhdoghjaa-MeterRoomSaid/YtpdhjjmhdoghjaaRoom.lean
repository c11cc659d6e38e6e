/- The walk over MeterRoom: it returns true. -/
import Derived.Test.YtpdhjjmhdoghjaaBase
namespace Go.Proofs.Ytpdhjjmhdoghjaa
open Go.RowKit

theorem sums_push_zero (n : Nat) (p : Int × Int) : sumS (push (List.replicate n (0, 0)) p) = p.1 ∧ sumG (push (List.replicate n (0, 0)) p) = p.2 := by
  unfold push
  rw [sumS_append, sumG_append, List.tail_replicate, sumS_replicate, sumG_replicate, sumS_cons, sumG_cons, sumS_nil, sumG_nil]
  omega

set_option maxHeartbeats 1000000 in
theorem room_walk (x y n : Int) (_ : (Lit.int .i64 x).wf = true) (_ : (Lit.int .i64 y).wf = true) (_ : (Lit.int .i64 n).wf = true) (w : World) :
    Calls Try.prog 5 #[.int .i64 x, .int .i64 y, .int .i64 n] w fun e w' => e = .returned (.bool true) ∧ Below w.heap.size w w' := by
  go_enter Try.func5, Try.ntmps5
  go_wp2_with fail
  refine (awake_ok _).mono ?_
  rintro e w1 ⟨rfl, hs1⟩
  have S1 := Lib.hid hs1; clear hs1
  go_wp2_with fail
  have hv : mayM (1 + n % 8) 900 100 3 = true := by
    simp only [mayM, Bool.and_eq_true, decide_eq_true_eq]
    omega
  refine (new_ok _ 900 100 3 _ hv).mono ?_
  rintro e w2 ⟨r, b, rfl, hq, hr, hb, hs2⟩
  have z1 := S1.out.size
  have H2 := Lib.hid hq; clear hq hv
  have S2 := Lib.hid (S1.out.trans hs2); clear hs2
  have x0 : 0 ≤ x % 65536 := by omega
  have x1 : x % 65536 ≤ 65535 := by omega
  have y0 : 0 ≤ y % 65536 := by omega
  have y1 : y % 65536 ≤ 65535 := by omega
  generalize hX : x % 65536 = X at *
  generalize hY : y % 65536 = Y at *
  obtain ⟨t, ht⟩ : ∃ t, turnF (dirF (shr (push (List.replicate (1 + n % 8).toNat (0, 0)) (X, Y))) 900 100) 3 0 0 = t := ⟨_, rfl⟩
  have HT := Lib.hid ht; clear ht
  have hsh : shr (push (List.replicate (1 + n % 8).toNat (0, 0)) (X, Y)) = shv X Y := by
    unfold shr
    rw [(sums_push_zero _ _).1, (sums_push_zero _ _).2]
  go_wp2_with fail
  refine (tick_ok H2.out X Y (by unfold Fine; omega) t HT.out).mono ?_
  rintro e w3 ⟨rfl, hq3, hf3⟩
  have H3 := Lib.hid hq3; clear hq3
  have S3 := Lib.hid (ofAdd S2.out hf3 (Nat.le_trans z1 hr) (Nat.le_trans z1 hb)); clear hf3
  have HSH := Lib.hid hsh; clear hsh
  by_cases hy : 0 < Y
  · have fS := shv_facts X Y x0 (by omega) hy
    obtain ⟨tq, q0, q3, hv⟩ := fS
    have hne : (Y == 0) = false := by rw [beq_eq_false_iff_ne]; omega
    generalize 1000 * X / Y = Q at *
    have HV := Lib.hid hv; clear hv
    have tX : 0 ≤ 1000 * X ∧ 1000 * X ≤ 100000000 := by omega
    by_cases hq : Q < 1000
    · have hs : shr (push (List.replicate (1 + n % 8).toNat (0, 0)) (X, Y)) = Q := by rw [HSH.out, HV.out]; omega
      have HS := Lib.hid hs; clear hs
      go_wp2_with (first | (go_at_call 12; refine (num_any _ _).mono ?_; rintro e w4 ⟨rfl, rfl⟩) | (go_at_call 16; refine (share_ok H3.out Q HS.out).mono ?_; rintro e w4 ⟨rfl, rfl⟩))
      go_ret
      exact ⟨rfl, Same.below S3.out⟩
    · have hs : shr (push (List.replicate (1 + n % 8).toNat (0, 0)) (X, Y)) = 1000 := by rw [HSH.out, HV.out]; omega
      have HS := Lib.hid hs; clear hs
      go_wp2_with (first | (go_at_call 12; refine (num_any _ _).mono ?_; rintro e w4 ⟨rfl, rfl⟩) | (go_at_call 16; refine (share_ok H3.out 1000 HS.out).mono ?_; rintro e w4 ⟨rfl, rfl⟩))
      go_ret
      exact ⟨rfl, Same.below S3.out⟩
  · have hs : shr (push (List.replicate (1 + n % 8).toNat (0, 0)) (X, Y)) = 0 := by rw [HSH.out]; unfold shv; rw [if_neg hy]
    have HS := Lib.hid hs; clear hs
    go_wp2_with (first | (go_at_call 12; refine (num_any _ _).mono ?_; rintro e w4 ⟨rfl, rfl⟩) | (go_at_call 16; refine (share_ok H3.out 0 HS.out).mono ?_; rintro e w4 ⟨rfl, rfl⟩))
    go_ret
    exact ⟨rfl, Same.below S3.out⟩

end Go.Proofs.Ytpdhjjmhdoghjaa
