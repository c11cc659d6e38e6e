/- The walk over QualityTwins: it returns true. -/
import Derived.Test.YtbjahlapajfcaaaBase
import Derived.Deep.RegionWith
namespace Go.Proofs.Ytbjahlapajfcaaa
open Go.RowKit

set_option maxRecDepth 100000 in
set_option maxHeartbeats 600000 in
theorem twins_walk (n g : Int) (a2 : Option Addr) (len2 cap2 : Nat) (z2 : List Int) (a3 : Option Addr) (len3 cap3 : Nat) (z3 : List Int) (w : World) (_ : (Lit.int .i64 n).wf = true) (_ : (Lit.int .i64 g).wf = true)
    (h2 : RowIn .i64 w a2 len2 cap2 z2) (h3 : RowIn .i64 w a3 len3 cap3 z3) :
    Calls Try.prog 8 #[.int .i64 n, .int .i64 g, .slice a2 len2 cap2, .slice a3 len3 cap3] w fun e w' => e = .returned (.bool true) ∧ Below w.heap.size w w' := by
  have H2 := Lib.hid h2; clear h2
  have H3 := Lib.hid h3; clear h3
  go_enter Try.func8, Try.ntmps8
  go_wp2_with fail
  refine (awake_ok _).mono ?_
  rintro e w1 ⟨rfl, hs1⟩
  have S1 := Lib.hid hs1; clear hs1
  go_wp2_with fail
  obtain ⟨hG0, hG1⟩ := umod101 g
  generalize wrap64 ((IntKind.u64.wrap g).tmod 101) = G at *
  refine (new_ok (1 + n % 16) G 100 _ (by omega) (by omega) (by omega) (by omega) hG0 hG1).mono ?_
  rintro e w2 ⟨ra, ba, rfl, hq1, hra, hba, hs1⟩
  have z1 := S1.out.size
  have HA := Lib.hid hq1; clear hq1
  have S2 := Lib.hid (S1.out.trans hs1); clear hs1
  go_wp2_with fail
  refine (new_ok (1 + n % 16) G 100 _ (by omega) (by omega) (by omega) (by omega) hG0 hG1).mono ?_
  rintro e w3 ⟨rb, bb, rfl, hq1, hrb, hbb, hs1⟩
  have z2 := S2.out.size
  have HB := Lib.hid hq1; clear hq1
  have S3 := Lib.hid (S2.out.trans hs1)
  have HA3 := Lib.hid (HA.out.keep hs1 id id)
  have z3 := HA.out.lt
  have z4 := HA.out.ne
  have z5 := HB.out.ne
  have hra' : w.heap.size ≤ ra := Nat.le_trans z1 hra
  have hba' : w.heap.size ≤ ba := Nat.le_trans z1 hba
  have hrb' : w.heap.size ≤ rb := Nat.le_trans z2 hrb
  have hbb' : w.heap.size ≤ bb := Nat.le_trans z2 hbb
  clear hs1
  go_wp2_with fail
  go_loopw [15] (fun i wr => ∃ (k : Nat) (L : List (Int × Int)), k ≤ 60 ∧ i = .int .i64 k ∧ IsQ wr ra ba G 100 L ∧ IsQ wr rb bb G 100 L ∧ Same w wr) (fun i _ => 60 - (intOf i).toNat)
  case atStart => exact ⟨0, _, by omega, rfl, HA3.out, HB.out, S3.out⟩
  case round =>
    obtain ⟨k, L, hk, rfl, hqa, hqb, hs⟩ := hrel
    have A := Lib.hid hqa; clear hqa
    have B := Lib.hid hqb; clear hqb
    have S := Lib.hid hs; clear hs
    by_cases hc : k < len2 ∧ k < len3 ∧ k < 60
    · obtain ⟨hc1, hc2, hc3⟩ := hc
      obtain ⟨b, o, z, rfl, hcell⟩ := RowIn.at H2.out S.out k hc1
      obtain ⟨b', o', z', rfl, hcell'⟩ := RowIn.at H3.out S.out k hc2
      go_wp2_with fail
      all_goals
        refine (add_ok A.out _ _ (by unfold Fine; omega)).mono ?_
        rintro e w4 ⟨rfl, hq4, hf4⟩
        generalize hLa : push L _ = L' at hq4
        have HLa := Lib.hid hLa; clear hLa
        have A4 := Lib.hid hq4; clear hq4
        have B4 := Lib.hid (B.out.keep hf4 (by rintro (h | h) <;> omega) (by rintro (h | h) <;> omega))
        have S4 := Lib.hid (ofAdd S.out hf4 hra' hba')
        clear hf4
        go_wp2_with fail
        refine (add_ok B4.out _ _ (by unfold Fine; omega)).mono ?_
        rintro e w5 ⟨rfl, hq5, hf5⟩
        rw [HLa.out] at hq5
        have B5 := Lib.hid hq5; clear hq5
        have A5 := Lib.hid (A4.out.keep hf5 (by rintro (h | h) <;> omega) (by rintro (h | h) <;> omega))
        have S5 := Lib.hid (ofAdd S4.out hf5 hrb' hbb')
        clear hf5
        go_wp2_with fail
        obtain ⟨v, hv⟩ : ∃ v, gd L' G 100 = v := ⟨_, rfl⟩
        have HV := Lib.hid hv; clear hv
        go_loopw [20] (fun j wj => ∃ jk : Nat, jk ≤ 3 ∧ j = .int .i64 jk ∧ ∃ nn, wj = w5.drewN nn) (fun j _ => 3 - (intOf j).toNat)
        case atStart => exact ⟨0, by omega, rfl, 0, rfl⟩
        case round =>
          obtain ⟨jk, hjk, rfl, nn, rfl⟩ := hrel
          by_cases hj : jk < 3
          · go_wp2_with (first | (go_at_call_of 15 (Value.pointer (some ⟨ba, 0, none⟩)); refine (good_is (A5.out.drewN nn) v HV.out).mono ?_; rintro e w6 ⟨rfl, n6, rfl⟩) | (go_at_call_of 15 (Value.pointer (some ⟨bb, 0, none⟩)); refine (good_is (B5.out.drewN (nn + n6)) v HV.out).mono ?_; rintro e w6 ⟨rfl, n7, rfl⟩))
            go_roundw
            case rel => exact ⟨jk + 1, by omega, by go_num, nn + n6 + n7, rfl⟩
            case measure => simp [intOf]; omega
          · go_wp2_with fail
            refine (add_bad ba _ _ _ (by omega)).mono ?_
            rintro e w6 ⟨rfl, rfl⟩
            go_wp2_with (go_at_call 11; refine (num_any _ _).mono ?_; rintro e w6 ⟨rfl, rfl⟩)
            go_roundw
            case rel => exact ⟨k + 1, _, by omega, by go_num, A5.out.drewN nn, B5.out.drewN nn, S5.out.drewN nn⟩
            case measure => simp [intOf]; omega
    · have hx : (¬ k < len2) ∨ (k < len2 ∧ ¬ k < len3) ∨ (k < len2 ∧ k < len3 ∧ ¬ k < 60) := by omega
      clear hc
      obtain ⟨v, hv⟩ : ∃ v, gd L G 100 = v := ⟨_, rfl⟩
      have HV := Lib.hid hv; clear hv
      rcases hx with hx | ⟨hx1, hx2⟩ | ⟨hx1, hx2, hx3⟩
      all_goals
        go_wp2_with (first | (go_at_call 11; refine (num_any _ _).mono ?_; rintro e w6 ⟨rfl, rfl⟩) | (go_at_call_of 15 (Value.pointer (some ⟨ba, 0, none⟩)); refine (good_is A.out v HV.out).mono ?_; rintro e w6 ⟨rfl, n6, rfl⟩) | (go_at_call_of 15 (Value.pointer (some ⟨bb, 0, none⟩)); refine (good_is (B.out.drewN n6) v HV.out).mono ?_; rintro e w6 ⟨rfl, n7, rfl⟩))
        go_ret
        exact ⟨ret_bool (by simp), Same.below (S.out.drewN (n6 + n7))⟩

end Go.Proofs.Ytbjahlapajfcaaa
