/- The walk over QualityEnds: it returns true. -/
import Derived.Test.YtbjahlapajfcaaaBase
import Derived.Deep.RegionWith
namespace Go.Proofs.Ytbjahlapajfcaaa
open Go.RowKit

theorem sum_push_pos (L : List (Int × Int)) (p : Int × Int) (h : ∀ q ∈ L, Fine q) (hp : 0 < p.1) : 0 < sumS (push L p) := by
  have h1 := sums_bound L.tail fun q hq => h q (List.mem_of_mem_tail hq)
  unfold push
  rw [sumS_append, sumS_cons, sumS_nil]
  omega

theorem sums_eq (L : List (Int × Int)) (h : ∀ p ∈ L, p.2 = p.1) : sumG L = sumS L := by
  induction L with
  | nil => rfl
  | cons p L ih => rw [sumS_cons, sumG_cons, ih fun q hq => h q (by simp [hq]), h p (by simp)]

theorem sumG_zero (L : List (Int × Int)) (h : ∀ p ∈ L, p.2 = 0) : sumG L = 0 := by
  induction L with
  | nil => rfl
  | cons p L ih => rw [sumG_cons, ih fun q hq => h q (by simp [hq]), h p (by simp)]; rfl

/-- What the loop of QualityEnds keeps. -/
def EndsInv (k : Nat) (La Lb : List (Int × Int)) : Prop :=
  (∀ p ∈ La, p.2 = p.1) ∧ (∀ p ∈ Lb, p.2 = 0) ∧ (k = 0 → sumS Lb = 0) ∧ (0 < k → 0 < sumS Lb)

theorem ends_start (n : Nat) : EndsInv 0 (List.replicate n (0, 0)) (List.replicate n (0, 0)) := by
  refine ⟨?_, ?_, fun _ => sumS_replicate n, fun h => absurd h (by omega)⟩ <;>
  · intro p hp
    rw [List.eq_of_mem_replicate hp]

theorem ends_step {k : Nat} {La Lb : List (Int × Int)} (h : EndsInv k La Lb) (s : Int) (hs : 0 < s) (hl : ∀ q ∈ Lb, Fine q) : EndsInv (k + 1) (push La (s, s)) (push Lb (s, 0)) := by
  obtain ⟨h1, h2, h3, h4⟩ := h
  refine ⟨?_, ?_, fun h => by omega, fun _ => sum_push_pos Lb (s, 0) hl hs⟩
  · intro p hp
    unfold push at hp
    rcases List.mem_append.1 hp with hp | hp
    · exact h1 p (List.mem_of_mem_tail hp)
    · rw [List.mem_singleton] at hp; subst hp; rfl
  · intro p hp
    unfold push at hp
    rcases List.mem_append.1 hp with hp | hp
    · exact h2 p (List.mem_of_mem_tail hp)
    · rw [List.mem_singleton] at hp; subst hp; rfl

theorem ends_a {k : Nat} {La Lb : List (Int × Int)} (h : EndsInv k La Lb) (hl : ∀ q ∈ La, Fine q) (G : Int) (h1 : G ≤ 100) : gd La G 100 = true := by
  unfold gd
  rw [sums_eq La h.1]
  have := (sums_bound La hl).1
  have := Int.mul_le_mul_of_nonneg_left h1 this
  simpa using this

theorem ends_b {k : Nat} {La Lb : List (Int × Int)} (h : EndsInv k La Lb) (G : Int) (h0 : 0 ≤ G) : gd Lb G 100 = (decide (k = 0) || decide (G = 0)) := by
  unfold gd
  rw [sumG_zero Lb h.2.1]
  by_cases hk : k = 0
  · rw [h.2.2.1 hk]; simp [hk]
  · have := h.2.2.2 (by omega)
    by_cases hG : G = 0
    · simp [hG]
    · have : 0 < sumS Lb * G := Int.mul_pos this (by omega)
      simp [hk, hG]
      omega

theorem IsQ.fine {w : World} {r b : Nat} {g o : Int} {L : List (Int × Int)} (h : IsQ w r b g o L) : ∀ p ∈ L, Fine p := by
  obtain ⟨R, i, a1, a2, a3, a4, _⟩ := h
  exact a4

set_option maxHeartbeats 400000 in
theorem ends_walk (n g : Int) (a2 : Option Addr) (len2 cap2 : Nat) (z2 : List Int) (w : World) (_ : (Lit.int .i64 n).wf = true) (_ : (Lit.int .i64 g).wf = true) (h2 : RowIn .i64 w a2 len2 cap2 z2) :
    Calls Try.prog 4 #[.int .i64 n, .int .i64 g, .slice a2 len2 cap2] w fun e w' => e = .returned (.bool true) ∧ Below w.heap.size w w' := by
  have H2 := Lib.hid h2; clear h2
  go_enter Try.func4, Try.ntmps4
  go_wp2_with fail
  refine (awake_ok _).mono ?_
  rintro e w1 ⟨rfl, hs1⟩
  have S1 := Lib.hid hs1; clear hs1
  go_wp2_with fail
  obtain ⟨hG0, hG1⟩ := umod101 g
  generalize wrap64 ((IntKind.u64.wrap g).tmod 101) = G at *
  refine (new_ok (1 + n % 32) G 100 _ (by omega) (by omega) (by omega) (by omega) hG0 hG1).mono ?_
  rintro e w2 ⟨ra, ba, rfl, hq1, hra, hba, hs1⟩
  have z1 := S1.out.size
  have HA := Lib.hid hq1; clear hq1
  have S2 := Lib.hid (S1.out.trans hs1); clear hs1
  go_wp2_with fail
  refine (new_ok (1 + n % 32) G 100 _ (by omega) (by omega) (by omega) (by omega) hG0 hG1).mono ?_
  rintro e w3 ⟨rb, bb, rfl, hq1, hrb, hbb, hs1⟩
  have z2 := S2.out.size
  have HB := Lib.hid hq1; clear hq1
  have S3 := Lib.hid (S2.out.trans hs1)
  have HA3 := Lib.hid (HA.out.keep hs1 id id)
  have z3 := HA.out.lt
  have z4 := HA.out.ne
  have z5 := HB.out.ne
  have hra' : w.heap.size ≤ ra := Nat.le_trans z1 hra
  have hba' : w.heap.size ≤ ba := Nat.le_trans z1 hba
  have hrb' : w.heap.size ≤ rb := Nat.le_trans z2 hrb
  have hbb' : w.heap.size ≤ bb := Nat.le_trans z2 hbb
  clear hs1
  go_wp2_with fail
  go_loopw [13, 14] (fun v i wr => ∃ (k : Nat) (La Lb : List (Int × Int)), k ≤ 60 ∧ v = .int .i64 k ∧ i = .int .i64 k ∧ EndsInv k La Lb ∧ IsQ wr ra ba G 100 La ∧ IsQ wr rb bb G 100 Lb ∧ Same w wr) (fun _ i _ => 60 - (intOf i).toNat)
  case atStart => exact ⟨0, _, _, by omega, rfl, rfl, ends_start _, HA3.out, HB.out, S3.out⟩
  case round =>
    obtain ⟨k, La, Lb, hk, rfl, rfl, hinv, hqa, hqb, hs⟩ := hrel
    have A := Lib.hid hqa; clear hqa
    have B := Lib.hid hqb; clear hqb
    have S := Lib.hid hs; clear hs
    have I := Lib.hid hinv; clear hinv
    by_cases hc : k < len2 ∧ k < 60
    · obtain ⟨hc1, hc2⟩ := hc
      obtain ⟨b, o, z, rfl, hcell⟩ := RowIn.at H2.out S.out k hc1
      go_wp2_with fail
      refine (add_ok A.out (1 + z % 4096) (1 + z % 4096) (by unfold Fine; omega)).mono ?_
      rintro e w4 ⟨rfl, hq4, hf4⟩
      have A4 := Lib.hid hq4; clear hq4
      have B4 := Lib.hid (B.out.keep hf4 (by rintro (h | h) <;> omega) (by rintro (h | h) <;> omega))
      have S4 := Lib.hid (ofAdd S.out hf4 hra' hba')
      clear hf4
      go_wp2_with fail
      refine (add_ok B4.out (1 + z % 4096) 0 (by unfold Fine; omega)).mono ?_
      rintro e w5 ⟨rfl, hq5, hf5⟩
      have B5 := Lib.hid hq5; clear hq5
      have A5 := Lib.hid (A4.out.keep hf5 (by rintro (h | h) <;> omega) (by rintro (h | h) <;> omega))
      have S5 := Lib.hid (ofAdd S4.out hf5 hrb' hbb')
      clear hf5
      go_wp2_with (go_at_call 11; refine (num_any _ _).mono ?_; rintro e w6 ⟨rfl, rfl⟩)
      go_roundw
      case rel => exact ⟨k + 1, _, _, by omega, by go_num, by go_num, ends_step I.out _ (by omega) B4.out.fine, A5.out, B5.out, S5.out⟩
      case measure => simp [intOf]; omega
    · have hx : (¬ k < len2) ∨ (k < len2 ∧ ¬ k < 60) := by omega
      clear hc
      have hb := ends_b I.out G hG0
      have ha := ends_a I.out A.out.fine G hG1
      have hv : (k = 0 ∧ gd Lb G 100 = true) ∨ (((k : Int) == 0) = false ∧ G = 0 ∧ gd Lb G 100 = true) ∨ (((k : Int) == 0) = false ∧ (G == 0) = false ∧ gd Lb G 100 = false) := by
        rw [hb]
        by_cases h0 : k = 0
        · simp [h0]
        · by_cases h1 : G = 0
          · refine Or.inr (Or.inl ⟨?_, h1, by simp [h1]⟩)
            rw [beq_eq_false_iff_ne]; omega
          · refine Or.inr (Or.inr ⟨?_, ?_, by simp [h0, h1]⟩)
            · rw [beq_eq_false_iff_ne]; omega
            · rw [beq_eq_false_iff_ne]; exact h1
      have HA' := Lib.hid ha
      clear ha hb
      rcases hx with hx | ⟨hx1, hx2⟩ <;> rcases hv with ⟨rfl, hv⟩ | ⟨hk0, rfl, hv⟩ | ⟨hk0, hG0', hv⟩
      any_goals (exfalso; omega)
      all_goals
        have HV := Lib.hid hv
        clear hv
        go_wp2_with (first | (go_at_call 11; refine (num_any _ _).mono ?_; rintro e w6 ⟨rfl, rfl⟩) | (go_at_call_of 15 (Value.pointer (some ⟨ba, 0, none⟩)); refine (good_is A.out true HA'.out).mono ?_; rintro e w6 ⟨rfl, n6, rfl⟩) | (go_at_call_of 15 (Value.pointer (some ⟨bb, 0, none⟩)); refine (good_is (B.out.drewN n6) _ HV.out).mono ?_; rintro e w6 ⟨rfl, n7, rfl⟩))
        go_ret
        exact ⟨rfl, Same.below (S.out.drewN (n6 + n7))⟩

end Go.Proofs.Ytbjahlapajfcaaa
