/- The walk over MeterForms: it returns true. -/
import Derived.Test.YtpdhjjmhdoghjaaBase
namespace Go.Proofs.Ytpdhjjmhdoghjaa
open Go.RowKit

set_option maxRecDepth 100000 in
set_option maxHeartbeats 1000000 in
theorem forms_bad (n h l d x y : Int) (w : World) (hv : mayM n h l d = false) :
    Calls Try.prog 6 #[.int .i64 n, .int .i64 h, .int .i64 l, .int .i64 d, .int .i64 x, .int .i64 y] w fun e w' => e = .returned (.bool true) ∧ Below w.heap.size w w' := by
  have hw : ¬ (1 ≤ n ∧ n ≤ 32 ∧ 1 ≤ h ∧ h ≤ 1000 ∧ 0 ≤ l ∧ l < h ∧ 1 ≤ d ∧ d ≤ 4096) := by
    intro hh
    rw [Bool.eq_false_iff] at hv
    apply hv
    simp only [mayM, Bool.and_eq_true, decide_eq_true_eq]
    omega
  have HV := Lib.hid hv; clear hv
  have HW := Lib.hid hw; clear hw
  go_enter Try.func6, Try.ntmps6
  go_wp2_with fail
  refine (awake_ok _).mono ?_
  rintro e w1 ⟨rfl, hs1⟩
  have S1 := Lib.hid hs1; clear hs1
  go_wp2_with fail
  refine (new_bad n h l d _ HV.out).mono ?_
  rintro e w2 ⟨rfl, rfl⟩
  go_wp2_with (go_at_call 12; refine (num_any _ _).mono ?_; rintro e w3 ⟨rfl, rfl⟩)
  all_goals first
    | (go_ret; exact ⟨rfl, Same.below S1.out⟩)
    | (exfalso; have hh := HW.out; (try simp only [Bool.not_eq_false', decide_eq_true_eq] at *); omega)
    | (go_ret; exact ⟨ret_bool (by have hh := HW.out; simp; omega), Same.below S1.out⟩)

set_option maxRecDepth 100000 in
set_option maxHeartbeats 1000000 in
theorem forms_good (n h l d x y : Int) (w : World) (hv : mayM n h l d = true) :
    Calls Try.prog 6 #[.int .i64 n, .int .i64 h, .int .i64 l, .int .i64 d, .int .i64 x, .int .i64 y] w fun e w' => e = .returned (.bool true) ∧ Below w.heap.size w w' := by
  obtain ⟨⟨k1, k2⟩, k3, k4, k5, k6, k7, k8⟩ := may_bounds hv
  have HV := Lib.hid hv; clear hv
  go_enter Try.func6, Try.ntmps6
  go_wp2_with fail
  refine (awake_ok _).mono ?_
  rintro e w1 ⟨rfl, hs1⟩
  have S1 := Lib.hid hs1; clear hs1
  go_wp2_with fail
  refine (new_ok n h l d _ HV.out).mono ?_
  rintro e w2 ⟨r, b, rfl, hq, hr, hb, hs2⟩
  have z1 := S1.out.size
  have H2 := Lib.hid hq; clear hq
  have S2 := Lib.hid (S1.out.trans hs2); clear hs2
  by_cases hf : Fine (x, y)
  · obtain ⟨t, ht⟩ : ∃ t, turnF (dirF (shr (push (List.replicate n.toNat (0, 0)) (x, y))) h l) d 0 0 = t := ⟨_, rfl⟩
    have HT := Lib.hid ht; clear ht
    have HF := Lib.hid hf
    unfold Fine at hf
    obtain ⟨f1, f2, f3, f4⟩ := hf
    simp only at f1 f2 f3 f4
    go_wp2_with (first | (go_at_call 12; refine (num_any _ _).mono ?_; rintro e w3 ⟨rfl, rfl⟩) | (go_at_call 14; refine (tick_ok H2.out x y HF.out t HT.out).mono ?_; rintro e w3 ⟨rfl, hq3, hf3⟩; have S3 := Lib.hid (ofAdd S2.out hf3 (Nat.le_trans z1 hr) (Nat.le_trans z1 hb)); clear hf3 hq3))
    go_ret
    exact ⟨rfl, Same.below S3.out⟩
  · have hf' : x < 0 ∨ 2147483647 < x ∨ y < 0 ∨ 2147483647 < y := by unfold Fine at hf; simp only at hf; omega
    have HF := Lib.hid hf'; clear hf hf'
    go_wp2_with (first | (go_at_call 12; refine (num_any _ _).mono ?_; rintro e w3 ⟨rfl, rfl⟩) | (go_at_call 14; refine (tick_bad b x y _ HF.out).mono ?_; rintro e w3 ⟨rfl, rfl⟩) | (go_at_call 16; refine (share_ok H2.out 0 (shr_zero _)).mono ?_; rintro e w3 ⟨rfl, rfl⟩))
    all_goals first
      | (go_ret; exact ⟨rfl, Same.below S2.out⟩)
      | (go_ret; exact ⟨ret_bool (by have := HF.out; simp; omega), Same.below S2.out⟩)
      | (exfalso; have := HF.out; simp only [Bool.not_eq_false', decide_eq_true_eq] at *; omega)

theorem forms_walk (n h l d x y : Int) (_ : (Lit.int .i64 n).wf = true) (_ : (Lit.int .i64 h).wf = true) (_ : (Lit.int .i64 l).wf = true) (_ : (Lit.int .i64 d).wf = true) (_ : (Lit.int .i64 x).wf = true) (_ : (Lit.int .i64 y).wf = true) (w : World) :
    Calls Try.prog 6 #[.int .i64 n, .int .i64 h, .int .i64 l, .int .i64 d, .int .i64 x, .int .i64 y] w fun e w' => e = .returned (.bool true) ∧ Below w.heap.size w w' := by
  cases hv : mayM n h l d with
  | false => exact forms_bad n h l d x y w hv
  | true => exact forms_good n h l d x y w hv

end Go.Proofs.Ytpdhjjmhdoghjaa
