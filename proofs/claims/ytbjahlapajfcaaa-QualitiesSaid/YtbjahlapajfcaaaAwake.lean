/- The walk over awake of chapter 17: it returns true. -/
import Derived.Test.YtbjahlapajfcaaaWalksA
namespace Go.Proofs.Ytbjahlapajfcaaa
open Go.RowKit

theorem IsQ.ne {w : World} {r b : Nat} {g o : Int} {L : List (Int × Int)} (h : IsQ w r b g o L) : r ≠ b := by
  obtain ⟨R, i, a1, a2, a3, a4, a5, _⟩ := h
  exact a5

theorem good_is {w : World} {r b : Nat} {g o : Int} {L : List (Int × Int)} (h : IsQ w r b g o L) (v : Bool) (hv : gd L g o = v) :
    Calls Try.prog 15 #[.pointer (some ⟨b, 0, none⟩)] w fun e w' => e = .returned (.bool v) ∧ ∃ n, w' = w.drewN n := by
  subst hv
  exact good_ok h

theorem ofAdd {w w1 w2 : World} {r b : Nat} (h : Same w w1) (k : Fr (fun k => k = r ∨ k = b) w1 w2) (hr : w.heap.size ≤ r) (hb : w.heap.size ≤ b) : Same w w2 :=
  ⟨k.os.trans h.os, k.tape.trans h.tape, k.output.trans h.output, Nat.le_trans h.size k.size,
    fun i hi hs => (k.block i (Nat.lt_of_lt_of_le hi h.size) (by omega)).trans (h.block i hi hs)⟩

set_option maxHeartbeats 400000 in
theorem awake_ok (w : World) : Calls Try.prog 12 #[] w fun e w' => e = .returned (.bool true) ∧ Same w w' := by
  go_enter Try.func12, Try.ntmps12
  go_wp2_with fail
  refine (new_ok 2 1 2 _ (by omega) (by omega) (by omega) (by omega) (by omega) (by omega)).mono ?_
  rintro e w1 ⟨r, b, rfl, hq1, hr1, hb1, hs1⟩
  have hne : r ≠ b := hq1.ne
  have H1 := Lib.hid hq1; clear hq1
  have S1 := Lib.hid hs1; clear hs1
  go_wp2_with fail
  refine (num_any _ _).mono ?_
  rintro e w2 ⟨rfl, rfl⟩
  go_wp2_with fail
  refine (good_is H1.out true (by decide)).mono ?_
  rintro e w2 ⟨rfl, n2, rfl⟩
  go_wp2_with fail
  refine (add_ok (H1.out.drewN n2) 10 4 (by unfold Fine; omega)).mono ?_
  rintro e w3 ⟨rfl, hq3, hf3⟩
  have H3 := Lib.hid hq3; clear hq3 H1
  have S3 := Lib.hid (ofAdd (S1.out.drewN n2) hf3 hr1 hb1); clear hf3 S1
  go_wp2_with fail
  refine (good_is H3.out false (by decide)).mono ?_
  rintro e w2 ⟨rfl, n4, rfl⟩
  go_wp2_with fail
  refine (add_ok (H3.out.drewN n4) 10 9 (by unfold Fine; omega)).mono ?_
  rintro e w5 ⟨rfl, hq5, hf5⟩
  have H5 := Lib.hid hq5; clear hq5 H3
  have S5 := Lib.hid (ofAdd (S3.out.drewN n4) hf5 hr1 hb1); clear hf5 S3
  go_wp2_with fail
  refine (add_bad b 5 6 _ (by omega)).mono ?_
  rintro e w6 ⟨rfl, rfl⟩
  go_wp2_with fail
  refine (new_bad 0 1 2 _ (by omega)).mono ?_
  rintro e w6 ⟨rfl, rfl⟩
  go_wp2_with fail
  refine (num_any _ _).mono ?_
  rintro e w2 ⟨rfl, rfl⟩
  go_wp2_with fail
  refine (good_is H5.out true (by decide)).mono ?_
  rintro e w2 ⟨rfl, n6, rfl⟩
  go_wp2_with fail
  refine (num_any _ _).mono ?_
  rintro e w2 ⟨rfl, rfl⟩
  go_wp2_with fail
  refine (num_any _ _).mono ?_
  rintro e w2 ⟨rfl, rfl⟩
  go_wp2_with fail
  go_ret
  exact ⟨rfl, S5.out.drewN n6⟩

end Go.Proofs.Ytbjahlapajfcaaa
