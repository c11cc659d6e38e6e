/- The walk over MeterSteady: it returns true. -/
import Derived.Test.YtpdhjjmhdoghjaaBase
import Derived.Deep.RegionWith
namespace Go.Proofs.Ytpdhjjmhdoghjaa
open Go.RowKit

theorem umodk2 (g k : Int) (h1 : 1 ≤ k) (h2 : k ≤ 4096) : 0 ≤ wrap64 ((IntKind.u64.wrap g).tmod k) ∧ wrap64 ((IntKind.u64.wrap g).tmod k) < k := by
  have h0 : 0 ≤ IntKind.u64.wrap g := by
    simp only [IntKind.wrap, IntKind.bits, IntKind.signed]
    simp
    omega
  have a := Int.emod_nonneg (IntKind.u64.wrap g) (show k ≠ 0 by omega)
  have b := Int.emod_lt_of_pos (IntKind.u64.wrap g) (show 0 < k by omega)
  rw [Int.tmod_eq_emod_of_nonneg h0, IntWalk.wrap64_in _ ⟨by omega, by omega⟩]
  exact ⟨a, b⟩

/-- Each entry of the window has share s. -/
def Even (s : Int) (L : List (Int × Int)) : Prop := ∀ p ∈ L, 1000 * p.1 = s * p.2 ∧ 0 ≤ p.2

theorem even_sum (s : Int) (L : List (Int × Int)) (h : Even s L) : 1000 * sumS L = s * sumG L ∧ 0 ≤ sumG L := by
  induction L with
  | nil => rw [sumS_nil, sumG_nil]; omega
  | cons p L ih =>
    have a := ih fun q hq => h q (List.mem_cons_of_mem _ hq)
    have b := h p List.mem_cons_self
    rw [sumS_cons, sumG_cons, Int.mul_add, Int.mul_add]
    omega

theorem even_push (s : Int) (L : List (Int × Int)) (h : Even s L) (h0 : 0 ≤ s) (h1 : s ≤ 1000) : Even s (push L (s, 1000)) ∧ shr (push L (s, 1000)) = s := by
  have ht : Even s L.tail := fun q hq => h q (List.mem_of_mem_tail hq)
  have e : Even s (push L (s, 1000)) := by
    intro q hq
    unfold push at hq
    rcases List.mem_append.1 hq with hq | hq
    · exact ht q hq
    · rw [List.mem_singleton.1 hq]; simp only; omega
  refine ⟨e, ?_⟩
  have a := even_sum s _ e
  have b := (even_sum s _ ht).2
  have c : sumG (push L (s, 1000)) = sumG L.tail + 1000 := by
    unfold push
    rw [sumG_append, sumG_cons, sumG_nil]; simp only; omega
  unfold shr shv
  rw [if_pos (by omega), a.1, Int.mul_ediv_cancel _ (by omega)]
  omega

/-- The run after i ticks. -/
def Run (x k : Int) (i : Nat) (way long : Int) : Prop := (x = 0 ∧ way = 0 ∧ long = 0) ∨ (x ≠ 0 ∧ long = (i : Int) % k ∧ (way = x ∨ (way = 0 ∧ i = 0)))

theorem run_next (x k : Int) (i : Nat) (way long : Int) (hk : 1 ≤ k) (h : Run x k i way long) :
    (turnF x k way long).1 = (if ((i + 1 : Nat) : Int) % k = 0 then x else 0) ∧ Run x k (i + 1) (turnF x k way long).2.1 (turnF x k way long).2.2 := by
  have m0 := Int.emod_nonneg (i : Int) (show k ≠ 0 by omega)
  have m1 := Int.emod_lt_of_pos (i : Int) (show 0 < k by omega)
  have m2 : ((i + 1 : Nat) : Int) % k = ((i : Int) % k + 1) % k := by rw [Int.emod_add_emod]; rfl
  have m3 : ((i + 1 : Nat) : Int) % k = if (i : Int) % k + 1 < k then (i : Int) % k + 1 else 0 := by
    rw [m2]
    by_cases hc : (i : Int) % k + 1 < k
    · rw [if_pos hc, Int.emod_eq_of_lt (by omega) hc]
    · rw [if_neg hc, show (i : Int) % k + 1 = k by omega, Int.emod_self]
  rcases h with ⟨rfl, rfl, rfl⟩ | ⟨hx, hl, hw⟩
  · refine ⟨?_, Or.inl ⟨rfl, rfl, rfl⟩⟩
    show (0 : Int) = _
    split <;> rfl
  · rcases hw with rfl | ⟨rfl, rfl⟩
    · unfold turnF
      rw [if_neg hx, if_pos rfl, hl]
      by_cases hc : (i : Int) % k + 1 < k
      · rw [if_pos hc] at m3 ⊢
        refine ⟨by rw [m3, if_neg (by omega)], Or.inr ⟨hx, m3.symm, Or.inl rfl⟩⟩
      · rw [if_neg hc] at m3 ⊢
        refine ⟨by rw [m3, if_pos rfl], Or.inr ⟨hx, m3.symm, Or.inl rfl⟩⟩
    · unfold turnF
      have z : ((0 : Nat) : Int) % k = 0 := by simp
      rw [z] at m3
      rw [if_neg hx, if_neg hx]
      by_cases hc : (1 : Int) < k
      · rw [if_pos (by omega)] at m3
        rw [if_pos hc]
        refine ⟨by rw [m3, if_neg (by omega)], Or.inr ⟨hx, by rw [m3]; rfl, Or.inl rfl⟩⟩
      · rw [if_neg (by omega)] at m3
        rw [if_neg hc]
        refine ⟨by rw [m3, if_pos rfl], Or.inr ⟨hx, m3.symm, Or.inl rfl⟩⟩

set_option maxRecDepth 100000 in
set_option maxHeartbeats 1000000 in
theorem steady_walk (g h l d : Int) (_ : (Lit.int .i64 g).wf = true) (_ : (Lit.int .i64 h).wf = true) (_ : (Lit.int .i64 l).wf = true) (_ : (Lit.int .i64 d).wf = true) (w : World) :
    Calls Try.prog 4 #[.int .i64 g, .int .i64 h, .int .i64 l, .int .i64 d] w fun e w' => e = .returned (.bool true) ∧ Below w.heap.size w w' := by
  obtain ⟨g0, g1⟩ := umodk2 g 1001 (by omega) (by omega)
  obtain ⟨h0, h1⟩ := umodk2 h 999 (by omega) (by omega)
  go_enter Try.func4, Try.ntmps4
  go_wp2_with fail
  refine (awake_ok _).mono ?_
  rintro e w1 ⟨rfl, hs1⟩
  have S1 := Lib.hid hs1; clear hs1
  go_wp2_with fail
  generalize hS : wrap64 ((IntKind.u64.wrap g).tmod 1001) = s at *
  generalize hH : wrap64 ((IntKind.u64.wrap h).tmod 999) = H at *
  obtain ⟨l0, l1⟩ := umodk2 l (2 + H - 1) (by omega) (by omega)
  generalize hW : wrap64 ((IntKind.u64.wrap l).tmod (2 + H - 1)) = W at *
  have hv : mayM 4 (2 + H) W (1 + d % 16) = true := by
    simp only [mayM, Bool.and_eq_true, decide_eq_true_eq]
    omega
  refine (new_ok _ _ _ _ _ hv).mono ?_
  rintro e w2 ⟨r, b, rfl, hq, hr, hb, hs2⟩
  have z1 := S1.out.size
  have H2 := Lib.hid hq; clear hq hv
  have S2 := Lib.hid (S1.out.trans hs2); clear hs2
  have hr' : w.heap.size ≤ r := Nat.le_trans z1 hr
  have hb' : w.heap.size ≤ b := Nat.le_trans z1 hb
  have k0 : 1 ≤ 1 + d % 16 := by omega
  have k1 : 1 + d % 16 ≤ 16 := by omega
  generalize hK : 1 + d % 16 = K at *
  generalize hM : 2 + H = M at *
  obtain ⟨x, hx⟩ : ∃ x, dirF s M W = x := ⟨_, rfl⟩
  have X := Lib.hid hx; clear hx
  go_wp2_with (go_at_call 12; refine (num_any _ _).mono ?_; rintro e w6 ⟨rfl, rfl⟩)
  go_loopw [15] (fun i wr => ∃ (j : Nat) (L : List (Int × Int)) (way long : Int), j ≤ 40 ∧ i = .int .i64 ((j : Int) + 1) ∧ Even s L ∧ Run x K j way long ∧ IsM wr r b M W K L way long ∧ Same w wr) (fun i _ => 41 - (intOf i).toNat)
  case atStart => exact ⟨0, _, 0, 0, by omega, rfl, by intro p hp; rw [List.eq_of_mem_replicate hp]; simp, by by_cases hx : x = 0; exact Or.inl ⟨hx, rfl, rfl⟩; exact Or.inr ⟨hx, by simp, Or.inr ⟨rfl, rfl⟩⟩, H2.out, S2.out⟩
  case round =>
    obtain ⟨j, L, way, long, hj, rfl, he, hrun, hq, hs⟩ := hrel
    have HM := Lib.hid hq; clear hq
    have S := Lib.hid hs; clear hs
    have E := Lib.hid (even_push s L he g0 (by omega)); clear he
    have N := run_next x K j way long k0 hrun
    have m0 := Int.emod_nonneg ((j : Int) + 1) (show K ≠ 0 by omega)
    rw [show (((j + 1 : Nat) : Int)) = (j : Int) + 1 from rfl] at N
    have N1 := Lib.hid N.1
    have N2 := Lib.hid N.2
    clear N hrun
    by_cases hc : j < 40
    · obtain ⟨t, ht⟩ : ∃ t, turnF (dirF (shr (push L (s, 1000))) M W) K way long = t := ⟨_, rfl⟩
      have T := Lib.hid ht
      rw [E.out.2, X.out] at ht
      have n1 := N1.out; rw [ht] at n1
      have n2 := N2.out; rw [ht] at n2
      have V : ((((j : Int) + 1) % K = 0) ∧ M ≤ s ∧ t.1 = 1) ∨ ((((j : Int) + 1) % K = 0) ∧ s < M ∧ s ≤ W ∧ t.1 = -1) ∨ ((((j : Int) + 1) % K = 0) ∧ s < M ∧ W < s ∧ t.1 = 0) ∨ (¬ ((j : Int) + 1) % K = 0 ∧ t.1 = 0) := by
        have xx := X.out
        unfold dirF at xx
        by_cases hz : ((j : Int) + 1) % K = 0
        · rw [if_pos hz] at n1
          by_cases hh : M ≤ s
          · rw [if_pos hh] at xx
            exact Or.inl ⟨hz, hh, by rw [n1, ← xx]⟩
          · rw [if_neg hh] at xx
            by_cases hl : s ≤ W
            · rw [if_pos hl] at xx
              exact Or.inr (Or.inl ⟨hz, by omega, hl, by rw [n1, ← xx]⟩)
            · rw [if_neg hl] at xx
              exact Or.inr (Or.inr (Or.inl ⟨hz, by omega, by omega, by rw [n1, ← xx]⟩))
        · rw [if_neg hz] at n1
          exact Or.inr (Or.inr (Or.inr ⟨hz, n1⟩))
      have n2' := Lib.hid n2
      clear ht n1 n2
      obtain ⟨u, tw, tl⟩ := t
      simp only at V
      rcases V with ⟨v1, v2, rfl⟩ | ⟨v1, v2, v3, rfl⟩ | ⟨v1, v2, v3, rfl⟩ | ⟨v1, rfl⟩
      all_goals
        go_wp2_with fail
        refine (tick_ok HM.out s 1000 (by unfold Fine; omega) _ T.out).mono ?_
        rintro e w4 ⟨rfl, hq4, hf4⟩
        have M4 := Lib.hid hq4; clear hq4
        have S4 := Lib.hid (ofAdd S.out hf4 hr' hb'); clear hf4
        go_wp2_with (first | (go_at_call 12; refine (num_any _ _).mono ?_; rintro e w6 ⟨rfl, rfl⟩) | (go_at_call 16; refine (share_ok M4.out s E.out.2).mono ?_; rintro e w6 ⟨rfl, rfl⟩))
        all_goals first
          | (go_roundw
             case rel => exact ⟨j + 1, _, _, _, by omega, by go_num, E.out.1, n2'.out, M4.out, S4.out⟩
             case measure => simp [intOf]; omega)
          | (exfalso; omega)
          | trace_state
    · go_wp2_with fail
      go_ret
      exact ⟨rfl, Same.below S.out⟩

end Go.Proofs.Ytpdhjjmhdoghjaa
