/- The walk over MeterTwins: it returns true. -/
import Derived.Test.YtpdhjjmhdoghjaaBase
import Derived.Deep.RegionWith
namespace Go.Proofs.Ytpdhjjmhdoghjaa
open Go.RowKit

set_option maxRecDepth 100000 in
set_option maxHeartbeats 1000000 in
theorem twins_walk (n d : Int) (a2 : Option Addr) (len2 cap2 : Nat) (z2 : List Int) (a3 : Option Addr) (len3 cap3 : Nat) (z3 : List Int) (w : World) (_ : (Lit.int .i64 n).wf = true) (_ : (Lit.int .i64 d).wf = true)
    (h2 : RowIn .i64 w a2 len2 cap2 z2) (h3 : RowIn .i64 w a3 len3 cap3 z3) :
    Calls Try.prog 9 #[.int .i64 n, .int .i64 d, .slice a2 len2 cap2, .slice a3 len3 cap3] w fun e w' => e = .returned (.bool true) ∧ Below w.heap.size w w' := by
  have H2 := Lib.hid h2; clear h2
  have H3 := Lib.hid h3; clear h3
  have hv : mayM (1 + n % 16) 700 300 (1 + d % 8) = true := by
    simp only [mayM, Bool.and_eq_true, decide_eq_true_eq]
    omega
  have HV := Lib.hid hv; clear hv
  go_enter Try.func9, Try.ntmps9
  go_wp2_with fail
  refine (awake_ok _).mono ?_
  rintro e w1 ⟨rfl, hs1⟩
  have S1 := Lib.hid hs1; clear hs1
  go_wp2_with fail
  refine (new_ok _ 700 300 _ _ HV.out).mono ?_
  rintro e w2 ⟨ra, ba, rfl, hq1, hra, hba, hs1⟩
  have z1 := S1.out.size
  have HA := Lib.hid hq1; clear hq1
  have S2 := Lib.hid (S1.out.trans hs1); clear hs1
  go_wp2_with fail
  refine (new_ok _ 700 300 _ _ HV.out).mono ?_
  rintro e w3 ⟨rb, bb, rfl, hq1, hrb, hbb, hs1⟩
  have z2 := S2.out.size
  have HB := Lib.hid hq1; clear hq1
  have S3 := Lib.hid (S2.out.trans hs1)
  have HA3 := Lib.hid (HA.out.keep hs1 id id)
  have z3 := HA.out.lt
  have z4 := HA.out.ne
  have z5 := HB.out.ne
  have hra' : w.heap.size ≤ ra := Nat.le_trans z1 hra
  have hba' : w.heap.size ≤ ba := Nat.le_trans z1 hba
  have hrb' : w.heap.size ≤ rb := Nat.le_trans z2 hrb
  have hbb' : w.heap.size ≤ bb := Nat.le_trans z2 hbb
  clear hs1
  go_wp2_with fail
  go_loopw [13] (fun i wr => ∃ (k : Nat) (L : List (Int × Int)) (way long : Int), k ≤ 80 ∧ i = .int .i64 k ∧ IsM wr ra ba 700 300 (1 + d % 8) L way long ∧ IsM wr rb bb 700 300 (1 + d % 8) L way long ∧ Same w wr) (fun i _ => 80 - (intOf i).toNat)
  case atStart => exact ⟨0, _, 0, 0, by omega, rfl, HA3.out, HB.out, S3.out⟩
  case round =>
    obtain ⟨k, L, way, long, hk, rfl, hqa, hqb, hs⟩ := hrel
    have A := Lib.hid hqa; clear hqa
    have B := Lib.hid hqb; clear hqb
    have S := Lib.hid hs; clear hs
    by_cases hc : k < len2 ∧ k < len3 ∧ k < 80
    · obtain ⟨hc1, hc2, hc3⟩ := hc
      obtain ⟨b, o, z, rfl, hcell⟩ := RowIn.at H2.out S.out k hc1
      obtain ⟨b', o', z', rfl, hcell'⟩ := RowIn.at H3.out S.out k hc2
      go_wp2_with fail
      go_quiet (fail)
      obtain ⟨t, ht⟩ : ∃ t, turnF (dirF (shr (push L (z % 4096, z' % 4096))) 700 300) (1 + d % 8) way long = t := ⟨_, rfl⟩
      have HT := Lib.hid ht; clear ht
      have hF : Fine (z % 4096, z' % 4096) := by unfold Fine; simp only; omega
      have HF := Lib.hid hF; clear hF
      go_wp2_with fail

      refine (tick_ok (A.out.drewN _) _ _ HF.out t HT.out).mono ?_
      rintro e w4 ⟨rfl, hq4, hf4⟩
      have A4 := Lib.hid hq4; clear hq4
      have B4 := Lib.hid ((B.out.drewN _).keep hf4 (by rintro (h | h) <;> omega) (by rintro (h | h) <;> omega))
      have S4 := Lib.hid (ofAdd (S.out.drewN _) hf4 hra' hba')
      clear hf4
      go_wp2_with fail
      refine (tick_bad ba _ _ _ (by omega)).mono ?_
      rintro e w6 ⟨rfl, rfl⟩
      go_wp2_with fail
      refine (tick_ok B4.out _ _ HF.out t HT.out).mono ?_
      rintro e w5 ⟨rfl, hq5, hf5⟩
      have B5 := Lib.hid hq5; clear hq5
      have A5 := Lib.hid (A4.out.keep hf5 (by rintro (h | h) <;> omega) (by rintro (h | h) <;> omega))
      have S5 := Lib.hid (ofAdd S4.out hf5 hrb' hbb')
      clear hf5
      obtain ⟨v, hv⟩ : ∃ v, shr (push L (z % 4096, z' % 4096)) = v := ⟨_, rfl⟩
      have HS := Lib.hid hv; clear hv
      go_wp2_with (first | (go_at_call 12; refine (num_any _ _).mono ?_; rintro e w6 ⟨rfl, rfl⟩) | (go_at_call_of 16 (Value.pointer (some ⟨ba, 0, none⟩)); refine (share_ok A5.out v HS.out).mono ?_; rintro e w6 ⟨rfl, rfl⟩) | (go_at_call_of 16 (Value.pointer (some ⟨bb, 0, none⟩)); refine (share_ok B5.out v HS.out).mono ?_; rintro e w6 ⟨rfl, rfl⟩))
      go_roundw
      case rel => exact ⟨k + 1, _, _, _, by omega, by go_num, A5.out, B5.out, S5.out⟩
      case measure => simp [intOf]; omega
    · have hx : (¬ k < len2) ∨ (k < len2 ∧ ¬ k < len3) ∨ (k < len2 ∧ k < len3 ∧ ¬ k < 80) := by omega
      clear hc
      obtain ⟨v, hv⟩ : ∃ v, shr L = v := ⟨_, rfl⟩
      have HS := Lib.hid hv; clear hv
      rcases hx with hx | ⟨hx1, hx2⟩ | ⟨hx1, hx2, hx3⟩
      all_goals
        go_wp2_with (first | (go_at_call 12; refine (num_any _ _).mono ?_; rintro e w6 ⟨rfl, rfl⟩) | (go_at_call_of 16 (Value.pointer (some ⟨ba, 0, none⟩)); refine (share_ok A.out v HS.out).mono ?_; rintro e w6 ⟨rfl, rfl⟩) | (go_at_call_of 16 (Value.pointer (some ⟨bb, 0, none⟩)); refine (share_ok B.out v HS.out).mono ?_; rintro e w6 ⟨rfl, rfl⟩))
        go_ret
        exact ⟨ret_bool (by simp), Same.below S.out⟩

end Go.Proofs.Ytpdhjjmhdoghjaa
