/- The walk over MeterWindow: it returns true. -/
import Derived.Test.YtpdhjjmhdoghjaaBase
import Derived.Deep.RegionWith
import Derived.StillTailTactics
namespace Go.Proofs.Ytpdhjjmhdoghjaa
open Go.RowKit

theorem turn_small (x d way long : Int) (n : Nat) (hd : (n : Int) + 1 < d) (hl : 0 ≤ long ∧ long ≤ n) : (turnF x d way long).1 = 0 ∧ 0 ≤ (turnF x d way long).2.2 ∧ (turnF x d way long).2.2 ≤ (n : Int) + 1 := by
  have key : turnF x d way long = (0, 0, long) ∨ turnF x d way long = (0, 0, 0) ∨ turnF x d way long = (0, x, long + 1) ∨ turnF x d way long = (0, x, 1) := by
    unfold turnF
    by_cases h0 : x = 0
    · rw [if_pos h0]
      by_cases hw : x = way
      · rw [if_pos hw]; exact Or.inl rfl
      · rw [if_neg hw]; exact Or.inr (Or.inl rfl)
    · rw [if_neg h0]
      by_cases hw : x = way
      · rw [if_pos hw, if_pos (by omega)]; exact Or.inr (Or.inr (Or.inl rfl))
      · rw [if_neg hw, if_pos (by omega)]; exact Or.inr (Or.inr (Or.inr rfl))
  rcases key with h | h | h | h <;> rw [h] <;> refine ⟨rfl, ?_, ?_⟩ <;> simp only <;> omega

theorem push_last (L : List (Int × Int)) (p : Int × Int) (n i : Nat) (hL : L.length = n) (hi : i < n) (h : ∃ A, L = A ++ List.replicate i p) : ∃ A, push L p = A ++ List.replicate (i + 1) p := by
  obtain ⟨A, rfl⟩ := h
  unfold push
  cases A with
  | nil => simp only [List.nil_append, List.length_replicate] at hL; omega
  | cons q A => exact ⟨A, by rw [List.replicate_succ']; simp⟩

theorem full_last (L : List (Int × Int)) (p : Int × Int) (n : Nat) (hL : L.length = n) (h : ∃ A, L = A ++ List.replicate n p) : L = List.replicate n p := by
  obtain ⟨A, rfl⟩ := h
  rw [List.length_append, List.length_replicate] at hL
  have : A = [] := List.eq_nil_of_length_eq_zero (by omega)
  rw [this]; rfl

theorem sums_replicate (n : Nat) (x y : Int) : sumS (List.replicate n (x, y)) = n * x ∧ sumG (List.replicate n (x, y)) = n * y := by
  induction n with
  | zero => simp [sumS, sumG]
  | succ n ih =>
    rw [List.replicate_succ, sumS_cons, sumG_cons, ih.1, ih.2]
    simp only [Int.natCast_add, Int.add_mul]
    omega

theorem shr_full (n : Nat) (x : Int) (hn : 0 < n) (h0 : 0 ≤ x) (h1 : x ≤ 1023) : shr (List.replicate n (x, 1023)) = 1000 * x / 1023 := by
  unfold shr shv
  rw [(sums_replicate n x 1023).1, (sums_replicate n x 1023).2, if_pos (by omega)]
  have e : 1000 * ((n : Int) * x) = (n : Int) * (1000 * x) := Int.mul_left_comm _ _ _
  rw [e, Int.mul_ediv_mul_of_pos _ _ (by omega)]
  omega

set_option maxRecDepth 100000 in
set_option maxHeartbeats 1000000 in
theorem window_walk (n : Int) (a1 : Option Addr) (len1 cap1 : Nat) (z1 : List Int) (l : Int) (w : World) (_ : (Lit.int .i64 n).wf = true) (h1 : RowIn .i64 w a1 len1 cap1 z1) (_ : (Lit.int .i64 l).wf = true) :
    Calls Try.prog 8 #[.int .i64 n, .slice a1 len1 cap1, .int .i64 l] w fun e w' => e = .returned (.bool true) ∧ Below w.heap.size w w' := by
  have H1 := Lib.hid h1; clear h1
  go_enter Try.func8, Try.ntmps8
  go_wp2_with fail
  refine (awake_ok _).mono ?_
  rintro e w1 ⟨rfl, hs1⟩
  have S1 := Lib.hid hs1; clear hs1
  go_wp2_with fail
  have hv : mayM (1 + n % 16) 900 100 4000 = true := by
    simp only [mayM, Bool.and_eq_true, decide_eq_true_eq]
    omega
  refine (new_ok _ _ _ _ _ hv).mono ?_
  rintro e w2 ⟨r, b, rfl, hq, hr, hb, hs2⟩
  have z1 := S1.out.size
  have H2 := Lib.hid hq; clear hq hv
  have S2 := Lib.hid (S1.out.trans hs2); clear hs2
  have hr' : w.heap.size ≤ r := Nat.le_trans z1 hr
  have hb' : w.heap.size ≤ b := Nat.le_trans z1 hb
  have k0 : 1 ≤ 1 + n % 16 := by omega
  have k1 : 1 + n % 16 ≤ 16 := by omega
  generalize hK : 1 + n % 16 = K at *
  obtain ⟨k, rfl⟩ := Int.eq_ofNat_of_zero_le (a := K) (by omega)
  go_wp2_with fail
  go_loopw [10] (fun i wr => ∃ (j : Nat) (L : List (Int × Int)) (way long : Int), j ≤ 50 ∧ i = .int .i64 j ∧ L.length = k ∧ 0 ≤ long ∧ long ≤ j ∧ IsM wr r b 900 100 4000 L way long ∧ Same w wr) (fun i _ => 50 - (intOf i).toNat)
  case atStart => exact ⟨0, _, 0, 0, by omega, rfl, by simp, by omega, by omega, H2.out, S2.out⟩
  case round =>
    obtain ⟨j, L, way, long, hj, rfl, hL, hl0, hl1, hq, hs⟩ := hrel
    have HM := Lib.hid hq; clear hq
    have S := Lib.hid hs; clear hs
    by_cases hc : j < len1 ∧ j < 50
    · obtain ⟨hc1, hc2⟩ := hc
      obtain ⟨ab, ao, z, rfl, hcell⟩ := RowIn.at H1.out S.out j hc1
      obtain ⟨t, ht⟩ : ∃ t, turnF (dirF (shr (push L (z % 1024, 1 + z / 16 % 1024))) 900 100) 4000 way long = t := ⟨_, rfl⟩
      have T := Lib.hid ht
      have U := turn_small (dirF (shr (push L (z % 1024, 1 + z / 16 % 1024))) 900 100) 4000 way long j (by omega) ⟨hl0, hl1⟩
      rw [ht] at U
      clear ht
      go_wp2_with fail
      go_still_tail 13, (by kernel_rfl)
      go_wp2_with fail
      refine (tick_ok (HM.out.drewN _) _ _ (by unfold Fine; simp only; omega) t T.out).mono ?_
      rintro e w4 ⟨rfl, hq4, hf4⟩
      have M4 := Lib.hid hq4; clear hq4
      have S4 := Lib.hid (ofAdd (S.out.drewN _) hf4 hr' hb'); clear hf4
      go_wp2_with fail
      go_roundw
      case rel => exact ⟨j + 1, _, _, _, by omega, by go_num, by rw [length_push _ _ (by omega)]; exact hL, U.2.1, by omega, M4.out, S4.out⟩
      case measure => simp [intOf]; omega
    · have hx : (¬ j < len1) ∨ (j < len1 ∧ ¬ j < 50) := by omega
      clear hc
      have x0 : 0 ≤ l % 1024 := by omega
      have x1 : l % 1024 ≤ 1023 := by omega
      rcases hx with hx | ⟨hx1, hx2⟩
      all_goals
        go_wp2_with fail
        go_loopw [12] (fun i wr => ∃ (i' : Nat) (L : List (Int × Int)) (way long : Int), i' ≤ k ∧ i = .int .i64 i' ∧ L.length = k ∧ (∃ A, L = A ++ List.replicate i' (l % 1024, 1023)) ∧ 0 ≤ long ∧ long ≤ ((j + i' : Nat) : Int) ∧ IsM wr r b 900 100 4000 L way long ∧ Same w wr) (fun i _ => 16 - (intOf i).toNat)
        case atStart => exact ⟨0, L, way, long, by omega, rfl, hL, ⟨L, by simp⟩, hl0, by omega, HM.out, S.out⟩
        case round =>
          obtain ⟨i', L', way', long', hi, rfl, hL', hA, hl0', hl1', hq, hs⟩ := hrel
          have HM' := Lib.hid hq; clear hq
          have S' := Lib.hid hs; clear hs
          by_cases hd : i' < k
          · obtain ⟨t, ht⟩ : ∃ t, turnF (dirF (shr (push L' (l % 1024, 1023))) 900 100) 4000 way' long' = t := ⟨_, rfl⟩
            have T := Lib.hid ht
            have U := turn_small (dirF (shr (push L' (l % 1024, 1023))) 900 100) 4000 way' long' (j + i') (by omega) ⟨hl0', hl1'⟩
            rw [ht] at U
            clear ht
            obtain ⟨u, tw, tl⟩ := t
            simp only at U
            obtain ⟨rfl, u1, u2⟩ := U
            have P := Lib.hid (push_last L' (l % 1024, 1023) k i' hL' hd hA)
            have Q := Lib.hid (length_push L' (l % 1024, 1023) (by omega))
            clear hA
            go_wp2_with fail
            refine (tick_ok HM'.out (l % 1024) 1023 (by unfold Fine; simp only; omega) _ T.out).mono ?_
            rintro e w4 ⟨rfl, hq4, hf4⟩
            have M4 := Lib.hid hq4; clear hq4
            have S4 := Lib.hid (ofAdd S'.out hf4 hr' hb'); clear hf4
            go_wp2_with (first | (go_at_call 12; refine (num_any _ _).mono ?_; rintro e w6 ⟨rfl, rfl⟩))
            go_roundw
            case rel => exact ⟨i' + 1, _, _, _, by omega, by go_num, by rw [Q.out]; exact hL', P.out, u1, by omega, M4.out, S4.out⟩
            case measure => simp [intOf]; omega
          · have hik : i' = k := by omega
            subst hik
            have hF := full_last L' _ _ hL' hA
            have hsh : shr L' = 1000 * (l % 1024) / 1023 := by rw [hF]; exact shr_full _ _ (by omega) x0 x1
            have SH := Lib.hid hsh
            clear hF hA hsh
            have y0 : 0 ≤ 1000 * (l % 1024) / 1023 := by omega
            have y1 : 1000 * (l % 1024) / 1023 ≤ 1000 := by omega
            go_wp2_with (first | (go_at_call 12; refine (num_any _ _).mono ?_; rintro e w6 ⟨rfl, rfl⟩) | (go_at_call 16; refine (share_ok HM'.out _ SH.out).mono ?_; rintro e w6 ⟨rfl, rfl⟩))
            all_goals first
              | (go_ret; exact ⟨rfl, Same.below S'.out⟩)
              | (go_ret; exact ⟨ret_bool (by simp), Same.below S'.out⟩)
              | trace_state

end Go.Proofs.Ytpdhjjmhdoghjaa
