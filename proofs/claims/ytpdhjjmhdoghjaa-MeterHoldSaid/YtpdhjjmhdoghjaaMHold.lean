/- The walk over MeterHold: it returns true. -/
import Derived.Test.YtpdhjjmhdoghjaaBase
import Derived.Deep.RegionWith
namespace Go.Proofs.Ytpdhjjmhdoghjaa
open Go.RowKit

def wy (m : Int) : Int := if m = 0 then 0 else 1

theorem turn_up (p : Int × Int) (k m : Int) (h0 : 0 ≤ m) (h1 : m + 1 < k) : turnF (dirF (shr (push [p] (90, 100))) 800 200) k (wy m) m = (0, wy (m + 1), m + 1) := by
  have e : dirF (shr (push [p] (90, 100))) 800 200 = 1 := by rw [show push [p] (90, 100) = [(90, 100)] from rfl]; decide
  rw [e]
  unfold turnF wy
  rw [if_neg (by omega), if_neg (show ¬ m + 1 = 0 by omega)]
  by_cases hm : m = 0
  · subst hm
    rw [if_pos rfl, if_neg (by omega), if_pos (by omega)]
    rfl
  · rw [if_neg hm, if_pos rfl, if_pos h1]

theorem turn_end (p : Int × Int) (k m : Int) (h0 : 1 ≤ m) (h1 : m + 1 = k) : turnF (dirF (shr (push [p] (90, 100))) 800 200) k (wy m) m = (1, 1, 0) := by
  have e : dirF (shr (push [p] (90, 100))) 800 200 = 1 := by rw [show push [p] (90, 100) = [(90, 100)] from rfl]; decide
  rw [e]
  unfold turnF wy
  rw [if_neg (by omega), if_neg (show ¬ m = 0 by omega), if_pos rfl, if_neg (by omega)]

theorem turn_mid (p : Int × Int) (k m : Int) : turnF (dirF (shr (push [p] (50, 100))) 800 200) k (wy m) m = (0, wy 0, 0) := by
  have e : dirF (shr (push [p] (50, 100))) 800 200 = 0 := by rw [show push [p] (50, 100) = [(50, 100)] from rfl]; decide
  rw [e]
  unfold turnF wy
  rw [if_pos rfl, if_pos rfl]
  by_cases hm : m = 0
  · subst hm; rfl
  · rw [if_neg hm, if_neg (by omega)]

theorem umodk (g k : Int) (h1 : 1 ≤ k) (h2 : k ≤ 4096) : 0 ≤ wrap64 ((IntKind.u64.wrap g).tmod k) ∧ wrap64 ((IntKind.u64.wrap g).tmod k) < k := by
  have h0 : 0 ≤ IntKind.u64.wrap g := by
    simp only [IntKind.wrap, IntKind.bits, IntKind.signed]
    simp
    omega
  have a := Int.emod_nonneg (IntKind.u64.wrap g) (show k ≠ 0 by omega)
  have b := Int.emod_lt_of_pos (IntKind.u64.wrap g) (show 0 < k by omega)
  rw [Int.tmod_eq_emod_of_nonneg h0, IntWalk.wrap64_in _ ⟨by omega, by omega⟩]
  exact ⟨a, b⟩

set_option maxRecDepth 100000 in
set_option maxHeartbeats 1000000 in
theorem hold_walk (n g : Int) (_ : (Lit.int .i64 n).wf = true) (_ : (Lit.int .i64 g).wf = true) (w : World) :
    Calls Try.prog 7 #[.int .i64 n, .int .i64 g] w fun e w' => e = .returned (.bool true) ∧ Below w.heap.size w w' := by
  go_enter Try.func7, Try.ntmps7
  go_wp2_with fail
  refine (awake_ok _).mono ?_
  rintro e w1 ⟨rfl, hs1⟩
  have S1 := Lib.hid hs1; clear hs1
  go_wp2_with fail
  have hv : mayM 1 800 200 (2 + n % 16) = true := by
    simp only [mayM, Bool.and_eq_true, decide_eq_true_eq]
    omega
  obtain ⟨hG0, hG1⟩ := umodk g (2 + n % 16 - 1) (by omega) (by omega)
  refine (new_ok _ _ _ _ _ hv).mono ?_
  rintro e w2 ⟨r, b, rfl, hq, hr, hb, hs2⟩
  have z1 := S1.out.size
  have H2 := Lib.hid hq; clear hq hv
  have S2 := Lib.hid (S1.out.trans hs2); clear hs2
  have hr' : w.heap.size ≤ r := Nat.le_trans z1 hr
  have hb' : w.heap.size ≤ b := Nat.le_trans z1 hb
  have k0 : 2 ≤ 2 + n % 16 := by omega
  have k1 : 2 + n % 16 ≤ 17 := by omega
  generalize hK : 2 + n % 16 = K at *
  generalize hG : wrap64 ((IntKind.u64.wrap g).tmod (K - 1)) = G at *
  go_wp2_with fail
  go_loopw [9] (fun i wr => ∃ (k : Nat) (p : Int × Int) (m : Int), (k : Int) ≤ K - 1 ∧ m = (if (k : Int) ≤ G then (k : Int) else k - G - 1) ∧ i = .int .i64 k ∧ IsM wr r b 800 200 K [p] (wy m) m ∧ Same w wr) (fun i _ => 17 - (intOf i).toNat)
  case atStart => exact ⟨0, (0, 0), 0, by omega, by rw [if_pos (by omega)]; rfl, rfl, H2.out, S2.out⟩
  case round =>
    obtain ⟨k, p, m, hk, hm, rfl, hq, hs⟩ := hrel
    have HM := Lib.hid hq; clear hq
    have S := Lib.hid hs; clear hs
    by_cases hc : (k : Int) < K - 1
    · by_cases hg : (k : Int) = G
      · have T := Lib.hid (turn_mid p K m)
        go_wp2_with fail
        refine (tick_ok HM.out 50 100 (by unfold Fine; omega) _ T.out).mono ?_
        rintro e w4 ⟨rfl, hq4, hf4⟩
        have M4 := Lib.hid hq4; clear hq4
        have S4 := Lib.hid (ofAdd S.out hf4 hr' hb'); clear hf4
        go_wp2_with (go_at_call 12; refine (num_any _ _).mono ?_; rintro e w6 ⟨rfl, rfl⟩)
        go_roundw
        case rel => exact ⟨k + 1, (50, 100), 0, by omega, by rw [if_neg (by omega)]; omega, by go_num, M4.out, S4.out⟩
        case measure => simp [intOf]; omega
      · have hm0 : 0 ≤ m ∧ m + 1 < K := by
          by_cases hkg : (k : Int) ≤ G
          · rw [if_pos hkg] at hm; omega
          · rw [if_neg hkg] at hm; omega
        have T := Lib.hid (turn_up p K m hm0.1 hm0.2)
        go_wp2_with fail
        refine (tick_ok HM.out 90 100 (by unfold Fine; omega) _ T.out).mono ?_
        rintro e w4 ⟨rfl, hq4, hf4⟩
        have M4 := Lib.hid hq4; clear hq4
        have S4 := Lib.hid (ofAdd S.out hf4 hr' hb'); clear hf4
        go_wp2_with (go_at_call 12; refine (num_any _ _).mono ?_; rintro e w6 ⟨rfl, rfl⟩)
        have hm1 : m + 1 = (if ((k + 1 : Nat) : Int) ≤ G then ((k + 1 : Nat) : Int) else ((k + 1 : Nat) : Int) - G - 1) := by
          by_cases hkg : (k : Int) ≤ G
          · rw [if_pos hkg] at hm
            rw [if_pos (by omega)]; omega
          · rw [if_neg hkg] at hm
            rw [if_neg (by omega)]; omega
        go_roundw
        case rel => exact ⟨k + 1, (90, 100), m + 1, by omega, hm1, by go_num, M4.out, S4.out⟩
        case measure => simp [intOf]; omega
    · have hm0 : m = K - 2 - G := by
        rw [if_neg (by omega)] at hm
        omega
      go_wp2_with fail
      go_loopw [13] (fun i wr => ∃ (j : Nat) (p : Int × Int) (m : Int), (j : Int) ≤ G + 1 ∧ m = K - 2 - G + j ∧ i = .int .i64 j ∧ IsM wr r b 800 200 K [p] (wy m) m ∧ Same w wr) (fun i _ => 17 - (intOf i).toNat)
      case atStart => exact ⟨0, p, m, by omega, by omega, rfl, HM.out, S.out⟩
      case round =>
        obtain ⟨j, p', m', hj, hm', rfl, hq, hs⟩ := hrel
        have M5 := Lib.hid hq; clear hq
        have S5 := Lib.hid hs; clear hs
        by_cases hd : (j : Int) ≤ G
        · have T := Lib.hid (turn_up p' K m' (by omega) (by omega))
          go_wp2_with fail
          refine (tick_ok M5.out 90 100 (by unfold Fine; omega) _ T.out).mono ?_
          rintro e w4 ⟨rfl, hq4, hf4⟩
          have M4 := Lib.hid hq4; clear hq4
          have S4 := Lib.hid (ofAdd S5.out hf4 hr' hb'); clear hf4
          go_wp2_with fail
          go_roundw
          case rel => exact ⟨j + 1, (90, 100), m' + 1, by omega, by omega, by go_num, M4.out, S4.out⟩
          case measure => simp [intOf]; omega
        · have T := Lib.hid (turn_end p' K m' (by omega) (by omega))
          go_wp2_with fail
          refine (tick_ok M5.out 90 100 (by unfold Fine; omega) _ T.out).mono ?_
          rintro e w4 ⟨rfl, hq4, hf4⟩
          have S4 := Lib.hid (ofAdd S5.out hf4 hr' hb'); clear hf4 hq4
          go_wp2_with (go_at_call 12; refine (num_any _ _).mono ?_; rintro e w6 ⟨rfl, rfl⟩)
          go_ret
          exact ⟨rfl, Same.below S4.out⟩

end Go.Proofs.Ytpdhjjmhdoghjaa
