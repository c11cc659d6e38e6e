/- The walk over QualityRing: it returns true. -/
import Derived.Test.YtbjahlapajfcaaaBase
import Derived.Deep.RegionWith
import Derived.StillTailTactics
namespace Go.Proofs.Ytbjahlapajfcaaa
open Go.RowKit

/-- The last k reports are the same ones. -/
def Agree (k : Nat) (La Lb : List (Int × Int)) : Prop := ∃ Xa Xb M, La = Xa ++ M ∧ Lb = Xb ++ M ∧ M.length = k ∧ Xa.length = Xb.length

theorem agree_start {La Lb : List (Int × Int)} (h : La.length = Lb.length) : Agree 0 La Lb := ⟨La, Lb, [], by simp, by simp, rfl, h⟩

theorem agree_step {k : Nat} {La Lb : List (Int × Int)} (h : Agree k La Lb) (p : Int × Int) (hk : k < La.length) : Agree (k + 1) (push La p) (push Lb p) := by
  obtain ⟨Xa, Xb, M, rfl, rfl, hm, hx⟩ := h
  have h1 : 0 < Xa.length := by simp at hk; omega
  match Xa, Xb, hx, h1 with
  | x :: Xa, y :: Xb, hx, _ =>
    refine ⟨Xa, Xb, M ++ [p], ?_, ?_, by simp [hm], by simpa using hx⟩ <;> simp [push]

theorem agree_end {La Lb : List (Int × Int)} (h : Agree La.length La Lb) : La = Lb := by
  obtain ⟨Xa, Xb, M, h1, h2, hm, hx⟩ := h
  have : Xa.length = 0 := by
    have := congrArg List.length h1
    simp at this; omega
  have h3 : Xa = [] := List.eq_nil_of_length_eq_zero this
  have h4 : Xb = [] := List.eq_nil_of_length_eq_zero (by omega)
  rw [h1, h2, h3, h4]

set_option maxRecDepth 100000 in
set_option maxHeartbeats 600000 in
theorem ring_walk (n g : Int) (a2 : Option Addr) (len2 cap2 : Nat) (z2 : List Int) (a3 : Option Addr) (len3 cap3 : Nat) (z3 : List Int) (w : World) (_ : (Lit.int .i64 n).wf = true) (_ : (Lit.int .i64 g).wf = true)
    (h2 : RowIn .i64 w a2 len2 cap2 z2) (h3 : RowIn .i64 w a3 len3 cap3 z3) :
    Calls Try.prog 5 #[.int .i64 n, .int .i64 g, .slice a2 len2 cap2, .slice a3 len3 cap3] w fun e w' => e = .returned (.bool true) ∧ Below w.heap.size w w' := by
  have H2 := Lib.hid h2; clear h2
  have H3 := Lib.hid h3; clear h3
  go_enter Try.func5, Try.ntmps5
  go_wp2_with fail
  refine (awake_ok _).mono ?_
  rintro e w1 ⟨rfl, hs1⟩
  have S1 := Lib.hid hs1; clear hs1
  go_wp2_with fail
  obtain ⟨hG0, hG1⟩ := umod101 g
  generalize wrap64 ((IntKind.u64.wrap g).tmod 101) = G at *
  refine (new_ok (1 + n % 16) G 100 _ (by omega) (by omega) (by omega) (by omega) hG0 hG1).mono ?_
  rintro e w2 ⟨ra, ba, rfl, hq1, hra, hba, hs1⟩
  have z1 := S1.out.size
  have HA := Lib.hid hq1; clear hq1
  have S2 := Lib.hid (S1.out.trans hs1); clear hs1
  go_wp2_with fail
  refine (new_ok (1 + n % 16) G 100 _ (by omega) (by omega) (by omega) (by omega) hG0 hG1).mono ?_
  rintro e w3 ⟨rb, bb, rfl, hq1, hrb, hbb, hs1⟩
  have z2 := S2.out.size
  have HB := Lib.hid hq1; clear hq1
  have S3 := Lib.hid (S2.out.trans hs1)
  have HA3 := Lib.hid (HA.out.keep hs1 id id)
  have z3 := HA.out.lt
  have z4 := HA.out.ne
  have z5 := HB.out.ne
  have hra' : w.heap.size ≤ ra := Nat.le_trans z1 hra
  have hba' : w.heap.size ≤ ba := Nat.le_trans z1 hba
  have hrb' : w.heap.size ≤ rb := Nat.le_trans z2 hrb
  have hbb' : w.heap.size ≤ bb := Nat.le_trans z2 hbb
  clear hs1
  go_wp2_with fail
  have hm1 : 0 < (1 + n % 16).toNat := by omega
  obtain ⟨m, hm⟩ : ∃ m, (1 + n % 16).toNat = m := ⟨_, rfl⟩
  have hmi : (m : Int) ≤ 1 + n % 16 ∧ 1 + n % 16 ≤ (m : Int) := by omega
  rw [hm] at HA3 HB hm1
  have HM := Lib.hid hm; clear hm
  go_loopw [15] (fun i wr => ∃ (k : Nat) (La Lb : List (Int × Int)), k ≤ 60 ∧ i = .int .i64 k ∧ La.length = m ∧ Lb.length = m ∧ IsQ wr ra ba G 100 La ∧ IsQ wr rb bb G 100 Lb ∧ Same w wr) (fun i _ => 60 - (intOf i).toNat)
  case atStart => exact ⟨0, _, _, by omega, rfl, by simp, by simp, HA3.out, HB.out, S3.out⟩
  case round =>
    obtain ⟨k, La, Lb, hk, rfl, hla, hlb, hqa, hqb, hs⟩ := hrel
    have A := Lib.hid hqa; clear hqa
    have B := Lib.hid hqb; clear hqb
    have S := Lib.hid hs; clear hs
    have HLA := Lib.hid hla; clear hla
    have HLB := Lib.hid hlb; clear hlb
    by_cases hc : k < len2 ∧ k < 60
    · obtain ⟨hc1, hc2⟩ := hc
      obtain ⟨b, o, z, rfl, hcell⟩ := RowIn.at H2.out S.out k hc1
      go_wp2_with fail
      go_still_tail 12, (by kernel_rfl)
      go_wp2_with fail
      refine (add_ok (A.out.drewN 1) _ _ (by unfold Fine; omega)).mono ?_
      rintro e w4 ⟨rfl, hq4, hf4⟩
      have A4 := Lib.hid hq4; clear hq4
      have B4 := Lib.hid ((B.out.drewN 1).keep hf4 (by rintro (h | h) <;> omega) (by rintro (h | h) <;> omega))
      have S4 := Lib.hid (ofAdd (S.out.drewN 1) hf4 hra' hba')
      clear hf4
      go_wp2_with fail
      go_roundw
      case rel => exact ⟨k + 1, _, _, by omega, by go_num, (length_push _ _ (by rw [HLA.out]; exact hm1)).trans HLA.out, HLB.out, A4.out, B4.out, S4.out⟩
      case measure => simp [intOf]; omega
    · have hx : (¬ k < len2) ∨ (k < len2 ∧ ¬ k < 60) := by omega
      clear hc
      have G1 := Lib.hid (agree_start (HLA.out.trans HLB.out.symm))
      rcases hx with hx | ⟨hx1, hx2⟩
      all_goals
        go_wp2_with fail
        go_loopw [16] (fun i wj => ∃ (k : Nat) (La Lb : List (Int × Int)), k ≤ m ∧ i = .int .i64 k ∧ La.length = m ∧ Lb.length = m ∧ Agree k La Lb ∧ IsQ wj ra ba G 100 La ∧ IsQ wj rb bb G 100 Lb ∧ Same w wj) (fun i _ => m - (intOf i).toNat)
        case atStart => exact ⟨0, _, _, by omega, rfl, HLA.out, HLB.out, G1.out, A.out, B.out, S.out⟩
        case round =>
          clear A B S HLA HLB G1
          obtain ⟨k, La, Lb, hk, rfl, hla, hlb, hag, hqa, hqb, hs⟩ := hrel
          have A := Lib.hid hqa; clear hqa
          have B := Lib.hid hqb; clear hqb
          have S := Lib.hid hs; clear hs
          have HLA := Lib.hid hla; clear hla
          have HLB := Lib.hid hlb; clear hlb
          have AG := Lib.hid hag; clear hag
          by_cases hkm : k < m
          · have hkn : (k : Int) < 1 + n % 16 := by omega
            by_cases hl : k < len3
            · obtain ⟨b', o', z', rfl, hcell'⟩ := RowIn.at H3.out S.out k hl
              go_wp2_with fail
              all_goals
                refine (add_ok A.out _ _ (by unfold Fine; omega)).mono ?_
                rintro e w4 ⟨rfl, hq4, hf4⟩
                have A4 := Lib.hid hq4; clear hq4
                have B4 := Lib.hid (B.out.keep hf4 (by rintro (h | h) <;> omega) (by rintro (h | h) <;> omega))
                have S4 := Lib.hid (ofAdd S.out hf4 hra' hba')
                clear hf4
                go_wp2_with fail
                refine (add_ok B4.out _ _ (by unfold Fine; omega)).mono ?_
                rintro e w5 ⟨rfl, hq5, hf5⟩
                have B5 := Lib.hid hq5; clear hq5
                have A5 := Lib.hid (A4.out.keep hf5 (by rintro (h | h) <;> omega) (by rintro (h | h) <;> omega))
                have S5 := Lib.hid (ofAdd S4.out hf5 hrb' hbb')
                clear hf5
                go_wp2_with (go_at_call 11; refine (num_any _ _).mono ?_; rintro e w6 ⟨rfl, rfl⟩)
                go_roundw
                case rel => exact ⟨k + 1, _, _, by omega, by go_num, (length_push _ _ (by rw [HLA.out]; exact hm1)).trans HLA.out, (length_push _ _ (by rw [HLB.out]; exact hm1)).trans HLB.out, agree_step AG.out _ (by rw [HLA.out]; exact hkm), A5.out, B5.out, S5.out⟩
                case measure => simp [intOf]; omega
            · go_wp2_with fail
              refine (add_ok A.out _ _ (by unfold Fine; omega)).mono ?_
              rintro e w4 ⟨rfl, hq4, hf4⟩
              have A4 := Lib.hid hq4; clear hq4
              have B4 := Lib.hid (B.out.keep hf4 (by rintro (h | h) <;> omega) (by rintro (h | h) <;> omega))
              have S4 := Lib.hid (ofAdd S.out hf4 hra' hba')
              clear hf4
              go_wp2_with fail
              refine (add_ok B4.out _ _ (by unfold Fine; omega)).mono ?_
              rintro e w5 ⟨rfl, hq5, hf5⟩
              have B5 := Lib.hid hq5; clear hq5
              have A5 := Lib.hid (A4.out.keep hf5 (by rintro (h | h) <;> omega) (by rintro (h | h) <;> omega))
              have S5 := Lib.hid (ofAdd S4.out hf5 hrb' hbb')
              clear hf5
              go_wp2_with (go_at_call 11; refine (num_any _ _).mono ?_; rintro e w6 ⟨rfl, rfl⟩)
              go_roundw
              case rel => exact ⟨k + 1, _, _, by omega, by go_num, (length_push _ _ (by rw [HLA.out]; exact hm1)).trans HLA.out, (length_push _ _ (by rw [HLB.out]; exact hm1)).trans HLB.out, agree_step AG.out _ (by rw [HLA.out]; exact hkm), A5.out, B5.out, S5.out⟩
              case measure => simp [intOf]; omega
          · have hkn : ¬ (k : Int) < 1 + n % 16 := by omega
            have hkk : k = La.length := by rw [HLA.out]; omega
            have hab : La = Lb := by
              have := AG.out
              rw [hkk] at this
              exact agree_end this
            clear hkk
            obtain ⟨v, hva, hvb⟩ : ∃ v, gd La G 100 = v ∧ gd Lb G 100 = v := ⟨_, rfl, by rw [hab]⟩
            clear hab
            have VA := Lib.hid hva; clear hva
            have VB := Lib.hid hvb; clear hvb
            go_wp2_with (first | (go_at_call 11; refine (num_any _ _).mono ?_; rintro e w6 ⟨rfl, rfl⟩) | (go_at_call_of 15 (Value.pointer (some ⟨ba, 0, none⟩)); refine (good_is A.out v VA.out).mono ?_; rintro e w6 ⟨rfl, n6, rfl⟩) | (go_at_call_of 15 (Value.pointer (some ⟨bb, 0, none⟩)); refine (good_is (B.out.drewN n6) v VB.out).mono ?_; rintro e w6 ⟨rfl, n7, rfl⟩))
            go_ret
            exact ⟨ret_bool (by simp), Same.below (S.out.drewN (n6 + n7))⟩

end Go.Proofs.Ytbjahlapajfcaaa
