/- The walk over Meters: it returns true: the two ways of it. -/
import Derived.Test.YtpdhjjmhdoghjaaMLaw
namespace Go.Proofs.Ytpdhjjmhdoghjaa
open Go.RowKit

set_option maxRecDepth 100000 in
set_option maxHeartbeats 400000 in
theorem law_bad (n h l d : Int) (a3 : Option Addr) (len3 cap3 : Nat) (a4 : Option Addr) (len4 cap4 : Nat) (w : World) (hv : mayM n h l d = false) :
    Calls Try.prog 3 #[.int .i64 n, .int .i64 h, .int .i64 l, .int .i64 d, .slice a3 len3 cap3, .slice a4 len4 cap4] w fun e w' => e = .returned (.bool true) ∧ Below w.heap.size w w' := by
  have HV := Lib.hid hv; clear hv
  go_enter Try.func3, Try.ntmps3
  go_wp2_with fail
  refine (new_bad n h l d _ HV.out).mono ?_
  rintro e w2 ⟨rfl, rfl⟩
  go_wp2_with fail
  refine (rnew_bad n h l d _ HV.out).mono ?_
  rintro e w2 ⟨rfl, rfl⟩
  go_wp2_with (go_at_call 12; refine (num_any _ _).mono ?_; rintro e w2 ⟨rfl, rfl⟩)
  refine (awake_ok _).mono ?_
  rintro e w1 ⟨rfl, hs1⟩
  have S1 := Lib.hid hs1; clear hs1
  go_wp2_with fail
  go_ret
  exact ⟨rfl, Same.below S1.out⟩

set_option maxRecDepth 100000 in
set_option maxHeartbeats 1000000 in
theorem law_good (n h l d : Int) (a3 : Option Addr) (len3 cap3 : Nat) (z3 : List Int) (a4 : Option Addr) (len4 cap4 : Nat) (z4 : List Int) (w : World) (h3 : RowIn .i64 w a3 len3 cap3 z3) (h4 : RowIn .i64 w a4 len4 cap4 z4)
    (hv : mayM n h l d = true) :
    Calls Try.prog 3 #[.int .i64 n, .int .i64 h, .int .i64 l, .int .i64 d, .slice a3 len3 cap3, .slice a4 len4 cap4] w fun e w' => e = .returned (.bool true) ∧ Below w.heap.size w w' := by
  have H3 := Lib.hid h3; clear h3
  have H4 := Lib.hid h4; clear h4
  have HV := Lib.hid hv; clear hv
  go_enter Try.func3, Try.ntmps3
  go_wp2_with fail
  refine (new_ok n h l d _ HV.out).mono ?_
  rintro e w1 ⟨r, b, rfl, hq1, hr1, hb1, hs1⟩
  have hr2 := hq1.lt
  have Q1 := Lib.hid hq1; clear hq1
  have S1 := Lib.hid hs1; clear hs1
  go_wp2_with fail
  refine (rnew_ok n h l d _ HV.out).mono ?_
  rintro e w2 ⟨rb, rfl, hi1, hs2⟩
  have Q2 := Lib.hid (Q1.out.keep hs2 id id)
  have S2 := Lib.hid (S1.out.trans hs2); clear hs2
  obtain ⟨B, hB⟩ : ∃ B, w1.heap.size = B := ⟨_, rfl⟩
  rw [hB] at hi1 hr2
  have hwB : w.heap.size ≤ B := hB ▸ S1.out.size
  have R2 := Lib.hid hi1; clear hi1 hB
  go_wp2_with (go_at_call 12; refine (num_any _ _).mono ?_; rintro e w3 ⟨rfl, rfl⟩)
  go_loopw [17] (fun i wr => ∃ (k : Nat) (LQ LR : List (Int × Int)) (way long s ab be : Int), k ≤ 200 ∧ i = .int .i64 k ∧ Pad n LQ LR ∧ Tie way long ab be ∧ shr LQ = s ∧ IsM wr r b h l d LQ way long ∧ IsR wr B rb n h l d LR s ab be ∧ Same w wr) (fun i _ => 200 - (intOf i).toNat)
  case atStart => exact ⟨0, _, _, 0, 0, 0, 0, 0, by omega, rfl, Pad.start n, Or.inr (Or.inr ⟨rfl, rfl, rfl, rfl⟩), shr_zero _, Q2.out, R2.out, S2.out⟩
  case round =>
    clear Q1 S1 Q2 S2 R2
    obtain ⟨k, LQ, LR, way, long, s0, ab, be, hk, rfl, hpad, htie, hsh0, hq, hr, hs⟩ := hrel
    have HS0 := Lib.hid hsh0; clear hsh0
    have Q := Lib.hid hq; clear hq
    have R := Lib.hid hr; clear hr
    have S := Lib.hid hs; clear hs
    have P := Lib.hid hpad; clear hpad
    have T := Lib.hid htie; clear htie
    by_cases hc : k < len3 ∧ k < len4 ∧ k < 200
    · obtain ⟨hc1, hc2, hc3⟩ := hc
      obtain ⟨b3, o3, x, rfl, d3⟩ := RowIn.at H3.out S.out k hc1
      obtain ⟨b4, o4, y, rfl, d4⟩ := RowIn.at H4.out S.out k hc2
      have l3 : b3 < w.heap.size := RowIn.lt H3.out (by omega)
      have l4 : b4 < w.heap.size := RowIn.lt H4.out (by omega)
      by_cases hf : Fine (x, y)
      · obtain ⟨s, hs⟩ : ∃ s, shr (push LQ (x, y)) = s := ⟨_, rfl⟩
        have hs2 : shr (add1 n LR (x, y)) = s := (P.out.push (x, y) R.out.nums.1 R.out.nums.2).shr ▸ hs
        obtain ⟨⟨v, way', long'⟩, ht⟩ : ∃ t, turnF (dirF s h l) d way long = t := ⟨_, rfl⟩
        obtain ⟨ab', be', hre, htie'⟩ := T.out.step s h l d Q.out.pars.1.1 Q.out.pars.2 v way' long' ht
        have hpad' := P.out.push (x, y) R.out.nums.1 R.out.nums.2
        have HS := Lib.hid hs
        have HS2 := Lib.hid hs2; clear hs2
        have HT := Lib.hid (hs.symm ▸ ht : turnF (dirF (shr (push LQ (x, y))) h l) d way long = (v, way', long')); clear ht hs
        have HRE := Lib.hid hre; clear hre
        have T4 := Lib.hid htie'; clear htie'
        have P4 := Lib.hid hpad'; clear hpad'
        have HF := Lib.hid hf; clear hf
        go_wp2_with fail
        go_region_held3 (fun w' => w'.cell? ⟨b3, o3 + k, none⟩ = some (.int .i64 x) ∧ w'.cell? ⟨b4, o4 + k, none⟩ = some (.int .i64 y))
          (first | exact ⟨d3, d4⟩ | exact ⟨e3, e4⟩)
          ((go_at_call 14; refine (tick_ok (Q.out.drewN 1) x y HF.out (v, way', long') HT.out).mono ?_; rintro e w4 ⟨rfl, hq4, hf4⟩; have e3 := cell_keep (w := wr.drewN 1) d3 hf4 (by omega); have e4 := cell_keep (w := wr.drewN 1) d4 hf4 (by omega); have Q4 := Lib.hid hq4; clear hq4; have S4 := Lib.hid (ofAdd (S.out.drewN 1) hf4 hr1 hb1); have R4 := Lib.hid ((R.out.drewN 1).keep hf4 (by rintro k (h | h) <;> omega)); clear hf4))
        go_wp2_with fail
        go_region_held3 (fun w' => w'.cell? ⟨b3, o3 + k, none⟩ = some (.int .i64 x) ∧ w'.cell? ⟨b4, o4 + k, none⟩ = some (.int .i64 y))
          (first | exact ⟨e3, e4⟩ | exact ⟨g3, g4⟩)
          ((go_at_call 15; refine (rtick_ok (R4.out.drewN 1) x y HF.out s v ab' be' HS2.out HRE.out).mono ?_; rintro e w5 ⟨rfl, hr5, hb5⟩; have g3 := cell_keep (w := w4.drewN 1) e3 (fr_of_below hb5) (by omega); have g4 := cell_keep (w := w4.drewN 1) e4 (fr_of_below hb5) (by omega); have R5 := Lib.hid hr5; have c0 := hr5.share; clear hr5; have Q5 := Lib.hid ((Q4.out.drewN 1).keep (fr_of_below hb5) (by omega) (by omega)); have S5 := Lib.hid (same_of_below (S4.out.drewN 1) hb5 hwB); clear hb5))
        clear d3 d4 e3 e4 g3 g4
        go_wp2_with fail
        go_quiet ((first | (go_at_call 12; exact quiet_of_eq (num_any _ _)) | (go_at_call 16; exact quiet_of_eq (share_ok (Q5.out.drewN _) s HS.out))))
        go_wp2
        go_roundw
        case rel => exact ⟨k + 1, _, _, _, _, _, _, _, by omega, by go_num, P4.out, T4.out, HS.out, Q5.out.drewN nq, R5.out.drewN nq, S5.out.drewN nq⟩
        case measure => simp [intOf]; omega
      · have hf' : x < 0 ∨ 2147483647 < x ∨ y < 0 ∨ 2147483647 < y := by unfold Fine at hf; simp only at hf; omega
        have HF := Lib.hid hf'; clear hf' hf
        have c0 := R.out.share
        go_wp2_with fail
        go_quiet ((go_at_call 14; exact quiet_of_eq (tick_bad b x y _ HF.out)))
        have d3 : (wr.drewN nq).cell? ⟨b3, o3 + k, none⟩ = some (.int .i64 x) := d3
        have d4 : (wr.drewN nq).cell? ⟨b4, o4 + k, none⟩ = some (.int .i64 y) := d4
        have c0 : (wr.drewN nq).cell? ⟨rb, 0, none⟩ = some (.int .i64 s0) := c0
        have Q := Lib.hid (Q.out.drewN nq)
        have R := Lib.hid (R.out.drewN nq)
        have S := Lib.hid (S.out.drewN nq)
        generalize wr.drewN nq = wq at *
        go_wp2_with fail
        go_quiet ((go_at_call 15; exact quiet_of_eq (rtick_bad rb x y _ HF.out)))
        have d3 : (wq.drewN nq).cell? ⟨b3, o3 + k, none⟩ = some (.int .i64 x) := d3
        have d4 : (wq.drewN nq).cell? ⟨b4, o4 + k, none⟩ = some (.int .i64 y) := d4
        have c0 : (wq.drewN nq).cell? ⟨rb, 0, none⟩ = some (.int .i64 s0) := c0
        have Q := Lib.hid (Q.out.drewN nq)
        have R := Lib.hid (R.out.drewN nq)
        have S := Lib.hid (S.out.drewN nq)
        generalize wq.drewN nq = wp at *
        go_wp2_with fail
        go_quiet ((first | (go_at_call 12; exact quiet_of_eq (num_any _ _)) | (go_at_call 16; exact quiet_of_eq (share_ok (Q.out.drewN _) s0 HS0.out))))
        go_wp2
        go_roundw
        case rel => exact ⟨k + 1, _, _, _, _, _, _, _, by omega, by go_num, P.out, T.out, HS0.out, Q.out.drewN _, R.out.drewN _, S.out.drewN _⟩
        case measure => simp [intOf]; omega
    · have hx : (¬ k < len3) ∨ (k < len3 ∧ ¬ k < len4) ∨ (k < len3 ∧ k < len4 ∧ ¬ k < 200) := by omega
      clear hc
      rcases hx with hx | ⟨hx1, hx2⟩ | ⟨hx1, hx2, hx3⟩
      all_goals
        go_wp2_with fail
        refine (awake_ok _).mono ?_
        rintro e w3 ⟨rfl, hs3⟩
        have S3 := Lib.hid (S.out.trans hs3); clear hs3
        go_wp2_with fail
        go_ret
        exact ⟨rfl, Same.below S3.out⟩

theorem law_walk (n h l d : Int) (a3 : Option Addr) (len3 cap3 : Nat) (z3 : List Int) (a4 : Option Addr) (len4 cap4 : Nat) (z4 : List Int) (w : World) (_ : (Lit.int .i64 n).wf = true) (_ : (Lit.int .i64 h).wf = true) (_ : (Lit.int .i64 l).wf = true) (_ : (Lit.int .i64 d).wf = true)
    (h3 : RowIn .i64 w a3 len3 cap3 z3) (h4 : RowIn .i64 w a4 len4 cap4 z4) :
    Calls Try.prog 3 #[.int .i64 n, .int .i64 h, .int .i64 l, .int .i64 d, .slice a3 len3 cap3, .slice a4 len4 cap4] w fun e w' => e = .returned (.bool true) ∧ Below w.heap.size w w' := by
  cases hv : mayM n h l d
  · exact law_bad n h l d a3 len3 cap3 a4 len4 cap4 w hv
  · exact law_good n h l d a3 len3 cap3 z3 a4 len4 cap4 z4 w h3 h4 hv

end Go.Proofs.Ytpdhjjmhdoghjaa
