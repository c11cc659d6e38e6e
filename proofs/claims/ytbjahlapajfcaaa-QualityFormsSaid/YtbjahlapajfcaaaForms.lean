/- The walk over QualityForms: it returns true. -/
import Derived.Test.YtbjahlapajfcaaaBase
namespace Go.Proofs.Ytbjahlapajfcaaa
open Go.RowKit

set_option maxHeartbeats 400000 in
theorem forms_bad (n g o s t : Int) (w : World) (h : n < 1 ∨ 32 < n ∨ o < 1 ∨ 1000 < o ∨ g < 0 ∨ o < g) :
    Calls Try.prog 6 #[.int .i64 n, .int .i64 g, .int .i64 o, .int .i64 s, .int .i64 t] w fun e w' => e = .returned (.bool true) ∧ Below w.heap.size w w' := by
  go_enter Try.func6, Try.ntmps6
  go_wp2_with fail
  refine (awake_ok _).mono ?_
  rintro e w1 ⟨rfl, hs1⟩
  have S1 := Lib.hid hs1; clear hs1
  go_wp2_with fail
  refine (new_bad n g o _ h).mono ?_
  rintro e w2 ⟨rfl, rfl⟩
  go_wp2_with (go_at_call 11; refine (num_any _ _).mono ?_; rintro e w2 ⟨rfl, rfl⟩)
  all_goals first
    | (go_ret; exact ⟨rfl, Same.below S1.out⟩)
    | (exfalso; simp only [Bool.not_eq_false', decide_eq_true_eq] at *; omega)

set_option maxHeartbeats 400000 in
theorem forms_good (n g o s t : Int) (w : World) (h1 : 1 ≤ n) (h2 : n ≤ 32) (h3 : 1 ≤ o) (h4 : o ≤ 1000) (h5 : 0 ≤ g) (h6 : g ≤ o) :
    Calls Try.prog 6 #[.int .i64 n, .int .i64 g, .int .i64 o, .int .i64 s, .int .i64 t] w fun e w' => e = .returned (.bool true) ∧ Below w.heap.size w w' := by
  go_enter Try.func6, Try.ntmps6
  go_wp2_with fail
  refine (awake_ok _).mono ?_
  rintro e w1 ⟨rfl, hs1⟩
  have S1 := Lib.hid hs1; clear hs1
  go_wp2_with fail
  refine (new_ok n g o _ h1 h2 h3 h4 h5 h6).mono ?_
  rintro e w2 ⟨r, b, rfl, hq1, hr1, hb1, hs1⟩
  have H1 := Lib.hid hq1; clear hq1
  have hz := S1.out.size
  have S2 := Lib.hid (S1.out.trans hs1); clear hs1
  go_wp2_with (go_at_call 11; refine (num_any _ _).mono ?_; rintro e w2 ⟨rfl, rfl⟩)
  by_cases hf : Fine (s, t)
  · refine (add_ok H1.out s t hf).mono ?_
    rintro e w3 ⟨rfl, hq3, hf3⟩
    have S3 := Lib.hid (ofAdd S2.out hf3 (Nat.le_trans hz hr1) (Nat.le_trans hz hb1)); clear hf3 hq3 S2
    unfold Fine at hf
    obtain ⟨f1, f2, f3⟩ := hf
    simp only at f1 f2 f3
    have f4 : 0 ≤ s := by omega
    go_wp2_with (go_at_call 11; refine (num_any _ _).mono ?_; rintro e w2 ⟨rfl, rfl⟩)
    go_ret
    exact ⟨rfl, Same.below S3.out⟩
  · unfold Fine at hf
    simp only at hf
    have hf' : s < 0 ∨ 2147483647 < s ∨ t < 0 ∨ s < t := by omega
    refine (add_bad b s t _ hf').mono ?_
    rintro e w3 ⟨rfl, rfl⟩
    go_wp2_with (first | (go_at_call 11; refine (num_any _ _).mono ?_; rintro e w2 ⟨rfl, rfl⟩) | (go_at_call 15; refine (good_is H1.out true (gd_zero _ _ _)).mono ?_; rintro e w2 ⟨rfl, n6, rfl⟩))
    all_goals go_ret
    all_goals first | exact ⟨rfl, Same.below (S2.out.drewN n6)⟩ | exact ⟨ret_bool (by simp; omega), Same.below (S2.out.drewN n6)⟩

theorem forms_walk (n g o s t : Int) (_ : (Lit.int .i64 n).wf = true) (_ : (Lit.int .i64 g).wf = true) (_ : (Lit.int .i64 o).wf = true) (_ : (Lit.int .i64 s).wf = true) (_ : (Lit.int .i64 t).wf = true) (w : World) :
    Calls Try.prog 6 #[.int .i64 n, .int .i64 g, .int .i64 o, .int .i64 s, .int .i64 t] w fun e w' => e = .returned (.bool true) ∧ Below w.heap.size w w' := by
  by_cases h : n < 1 ∨ 32 < n ∨ o < 1 ∨ 1000 < o ∨ g < 0 ∨ o < g
  · exact forms_bad n g o s t w h
  · exact forms_good n g o s t w (by omega) (by omega) (by omega) (by omega) (by omega) (by omega)

end Go.Proofs.Ytbjahlapajfcaaa
