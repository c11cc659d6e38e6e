/- Walks over package target and its reference: the small ones. -/
import Derived.Test.YtobpjejeignacaaMem
import Derived.BigQuiet
import Derived.BigRegion
import Derived.Deep.QuietTactic
import Derived.Deep.DeepCutAuto
import Derived.Deep.RegionWith
namespace Go.Proofs.Ytobpjejeignacaa
open Go.RowKit

/-- A config's fields. -/
structure Cfg where
  ports : Int
  links : Int
  least : Int
  rate : Int
  window : Int
  high : Int
  low : Int
  hold : Int
  base : Int
  cap : Int
  restart : Int
  tries : Int
  short : Bool
  sa : ByteArray
  sb : ByteArray
  ex : ByteArray
  ma : Int
  mb : Int

def inB (x a b : Int) : Bool := decide (a ≤ x) && decide (x ≤ b)

theorem ret_bool {a b : Bool} (h : a = b) : Ending.returned (.bool a) = .returned (.bool b) := by rw [h]

theorem inB_true {x a b : Int} (h1 : a ≤ x) (h2 : x ≤ b) : inB x a b = true := by simp [inB, h1, h2]

set_option maxHeartbeats 400000 in
theorem num_any (a : Int) (w : World) : Calls Try.prog 9 #[.int .i64 a] w fun e w' => e = .returned (.int .i64 a) ∧ w = w' := by
  go_enter Try.func9, Try.ntmps9
  go_wp2
  go_ret
  exact ⟨rfl, rfl⟩

set_option maxHeartbeats 400000 in
theorem in_any (x a b : Int) (w : World) : Calls Try.prog 16 #[.int .i64 x, .int .i64 a, .int .i64 b] w fun e w' => e = .returned (.bool (inB x a b)) ∧ w = w' := by
  go_enter Try.func16, Try.ntmps16
  go_wp2
  all_goals go_ret
  all_goals exact ⟨ret_bool (by rw [Bool.eq_iff_iff]; simp [inB]; omega), rfl⟩

theorem in_is (x a b : Int) (w : World) (v : Bool) (h : inB x a b = v) : Calls Try.prog 16 #[.int .i64 x, .int .i64 a, .int .i64 b] w fun e w' => e = .returned (.bool v) ∧ w = w' := by
  subst h
  exact in_any x a b w

def secB (s : ByteArray) : Bool := inB s.size 1 64

set_option maxHeartbeats 400000 in
theorem sec_any (s : ByteArray) (w : World) : Calls Try.prog 19 #[.string s] w fun e w' => e = .returned (.bool (secB s)) ∧ w = w' := by
  go_enter Try.func19, Try.ntmps19
  go_wp2_with (go_at_call 16; refine (in_any _ _ _ _).mono ?_; rintro e w' ⟨rfl, rfl⟩)
  go_ret
  exact ⟨rfl, rfl⟩

theorem sec_is (s : ByteArray) (w : World) (v : Bool) (h : secB s = v) : Calls Try.prog 19 #[.string s] w fun e w' => e = .returned (.bool v) ∧ w = w' := by
  subst h
  exact sec_any s w

set_option maxHeartbeats 400000 in
theorem rsec_any (s : ByteArray) (w : World) : Calls Try.prog 20 #[.string s] w fun e w' => e = .returned (.bool (secB s)) ∧ w = w' := by
  go_enter Try.func20, Try.ntmps20
  go_wp2
  all_goals go_ret
  all_goals exact ⟨ret_bool (by rw [Bool.eq_iff_iff]; simp [secB, inB]; omega), rfl⟩

theorem rsec_is (s : ByteArray) (w : World) (v : Bool) (h : secB s = v) : Calls Try.prog 20 #[.string s] w fun e w' => e = .returned (.bool v) ∧ w = w' := by
  subst h
  exact rsec_any s w

set_option maxHeartbeats 400000 in
theorem rmag_any (x : Int) (w : World) : Calls Try.prog 21 #[.int .i64 x] w fun e w' => e = .returned (.bool (inB x 1 4294967295)) ∧ w = w' := by
  go_enter Try.func21, Try.ntmps21
  go_wp2
  all_goals go_ret
  all_goals exact ⟨ret_bool (by rw [Bool.eq_iff_iff]; simp [inB]; omega), rfl⟩

theorem rmag_is (x : Int) (w : World) (v : Bool) (h : inB x 1 4294967295 = v) : Calls Try.prog 21 #[.int .i64 x] w fun e w' => e = .returned (.bool v) ∧ w = w' := by
  subst h
  exact rmag_any x w

def shapeB (rate least links : Int) : Bool := inB rate 64 4096 && (inB links 1 6 && inB least 1 links)

theorem and_true {a b : Bool} (h1 : a = true) (h2 : b = true) : (a && b) = true := by rw [h1, h2]; rfl

set_option maxHeartbeats 400000 in
theorem shape_any (r l k : Int) (w : World) : Calls Try.prog 17 #[.int .i64 r, .int .i64 l, .int .i64 k] w fun e w' => e = .returned (.bool (shapeB r l k)) ∧ w = w' := by
  unfold shapeB
  go_enter Try.func17, Try.ntmps17
  cases h1 : inB r 64 4096 with
  | false =>
    go_wp2_with (go_at_call 16; refine (in_is _ _ _ _ _ h1).mono ?_; rintro e w' ⟨rfl, rfl⟩)
    go_ret
    exact ⟨rfl, rfl⟩
  | true =>
    cases h2 : inB k 1 6 with
    | false =>
      go_wp2_with (first | (go_at_call_of 16 (Value.int .i64 r); refine (in_is _ _ _ _ _ h1).mono ?_; rintro e w' ⟨rfl, rfl⟩) | (go_at_call_of 16 (Value.int .i64 k); refine (in_is _ _ _ _ _ h2).mono ?_; rintro e w' ⟨rfl, rfl⟩))
      go_ret
      exact ⟨rfl, rfl⟩
    | true =>
      go_wp2_with (first | (go_at_call_of 16 (Value.int .i64 r); refine (in_is _ _ _ _ _ h1).mono ?_; rintro e w' ⟨rfl, rfl⟩) | (go_at_call_of 16 (Value.int .i64 l); refine (in_any _ _ _ _).mono ?_; rintro e w' ⟨rfl, rfl⟩) | (go_at_call_of 16 (Value.int .i64 k); refine (in_is _ _ _ _ _ h2).mono ?_; rintro e w' ⟨rfl, rfl⟩))
      go_ret
      exact ⟨rfl, rfl⟩

def meterB (n h l d : Int) : Bool := decide (1 ≤ n) && decide (n ≤ 32) && decide (1 ≤ h) && decide (h ≤ 1000) && decide (0 ≤ l) && decide (l < h) && decide (1 ≤ d) && decide (d ≤ 4096)

set_option maxHeartbeats 400000 in
theorem meter_any (n h l d : Int) (w : World) : Calls Try.prog 18 #[.int .i64 n, .int .i64 h, .int .i64 l, .int .i64 d] w fun e w' => e = .returned (.bool (meterB n h l d)) ∧ w = w' := by
  go_enter Try.func18, Try.ntmps18
  go_wp2
  all_goals go_ret
  all_goals exact ⟨ret_bool (by rw [Bool.eq_iff_iff]; simp [meterB]; omega), rfl⟩

end Go.Proofs.Ytobpjejeignacaa
