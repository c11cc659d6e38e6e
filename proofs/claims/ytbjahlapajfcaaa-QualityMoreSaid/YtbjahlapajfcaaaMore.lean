/- The walk over QualityMore: it returns true. -/
import Derived.Test.YtbjahlapajfcaaaBase
import Derived.Deep.RegionWith
namespace Go.Proofs.Ytbjahlapajfcaaa
open Go.RowKit

theorem IsQ.fine {w : World} {r b : Nat} {g o : Int} {L : List (Int × Int)} (h : IsQ w r b g o L) : ∀ p ∈ L, Fine p := by
  obtain ⟨R, i, a1, a2, a3, a4, _⟩ := h
  exact a4

/-- The second got no less of the same. -/
def Less (La Lb : List (Int × Int)) : Prop := sumS La = sumS Lb ∧ sumG La ≤ sumG Lb

def Lesser : List (Int × Int) → List (Int × Int) → Prop
  | [], [] => True
  | p :: A, q :: B => p.1 = q.1 ∧ p.2 ≤ q.2 ∧ Lesser A B
  | _, _ => False

theorem Lesser.refl (L : List (Int × Int)) : Lesser L L := by
  induction L with
  | nil => trivial
  | cons p L ih => exact ⟨rfl, Int.le_refl _, ih⟩

theorem Lesser.sums : ∀ {A B : List (Int × Int)}, Lesser A B → sumS A = sumS B ∧ sumG A ≤ sumG B
  | [], [], _ => ⟨rfl, Int.le_refl _⟩
  | p :: A, q :: B, h => by
    have := Lesser.sums h.2.2
    rw [sumS_cons, sumS_cons, sumG_cons, sumG_cons]
    have h1 := h.1
    have h2 := h.2.1
    omega

theorem Lesser.snoc : ∀ {A B : List (Int × Int)} {p q : Int × Int}, Lesser A B → p.1 = q.1 → p.2 ≤ q.2 → Lesser (A ++ [p]) (B ++ [q])
  | [], [], _, _, _, h1, h2 => ⟨h1, h2, trivial⟩
  | _ :: _, _ :: _, _, _, h, h1, h2 => ⟨h.1, h.2.1, Lesser.snoc h.2.2 h1 h2⟩

theorem Lesser.push {A B : List (Int × Int)} {p q : Int × Int} (h : Lesser A B) (h1 : p.1 = q.1) (h2 : p.2 ≤ q.2) : Lesser (push A p) (push B q) := by
  unfold Ytbjahlapajfcaaa.push
  refine Lesser.snoc ?_ h1 h2
  match A, B, h with
  | [], [], _ => trivial
  | _ :: _, _ :: _, h => exact h.2.2

theorem Lesser.good {A B : List (Int × Int)} (h : Lesser A B) (G : Int) (hg : gd A G 100 = true) : gd B G 100 = true := by
  have := h.sums
  unfold gd at *
  simp only [decide_eq_true_eq] at *
  rw [← this.1]
  omega

set_option maxRecDepth 100000 in
set_option maxHeartbeats 600000 in
theorem more_walk (n g : Int) (a2 : Option Addr) (len2 cap2 : Nat) (z2 : List Int) (a3 : Option Addr) (len3 cap3 : Nat) (z3 : List Int) (w : World) (_ : (Lit.int .i64 n).wf = true) (_ : (Lit.int .i64 g).wf = true)
    (h2 : RowIn .i64 w a2 len2 cap2 z2) (h3 : RowIn .i64 w a3 len3 cap3 z3) :
    Calls Try.prog 7 #[.int .i64 n, .int .i64 g, .slice a2 len2 cap2, .slice a3 len3 cap3] w fun e w' => e = .returned (.bool true) ∧ Below w.heap.size w w' := by
  have H2 := Lib.hid h2; clear h2
  have H3 := Lib.hid h3; clear h3
  go_enter Try.func7, Try.ntmps7
  go_wp2_with fail
  refine (awake_ok _).mono ?_
  rintro e w1 ⟨rfl, hs1⟩
  have S1 := Lib.hid hs1; clear hs1
  go_wp2_with fail
  obtain ⟨hG0, hG1⟩ := umod101 g
  generalize wrap64 ((IntKind.u64.wrap g).tmod 101) = G at *
  refine (new_ok (1 + n % 32) G 100 _ (by omega) (by omega) (by omega) (by omega) hG0 hG1).mono ?_
  rintro e w2 ⟨ra, ba, rfl, hq1, hra, hba, hs1⟩
  have z1 := S1.out.size
  have HA := Lib.hid hq1; clear hq1
  have S2 := Lib.hid (S1.out.trans hs1); clear hs1
  go_wp2_with fail
  refine (new_ok (1 + n % 32) G 100 _ (by omega) (by omega) (by omega) (by omega) hG0 hG1).mono ?_
  rintro e w3 ⟨rb, bb, rfl, hq1, hrb, hbb, hs1⟩
  have z2 := S2.out.size
  have HB := Lib.hid hq1; clear hq1
  have S3 := Lib.hid (S2.out.trans hs1)
  have HA3 := Lib.hid (HA.out.keep hs1 id id)
  have z3 := HA.out.lt
  have z4 := HA.out.ne
  have z5 := HB.out.ne
  have hra' : w.heap.size ≤ ra := Nat.le_trans z1 hra
  have hba' : w.heap.size ≤ ba := Nat.le_trans z1 hba
  have hrb' : w.heap.size ≤ rb := Nat.le_trans z2 hrb
  have hbb' : w.heap.size ≤ bb := Nat.le_trans z2 hbb
  clear hs1
  go_wp2_with fail
  go_loopw [15] (fun i wr => ∃ (k : Nat) (La Lb : List (Int × Int)), k ≤ 60 ∧ i = .int .i64 k ∧ Lesser La Lb ∧ IsQ wr ra ba G 100 La ∧ IsQ wr rb bb G 100 Lb ∧ Same w wr) (fun i _ => 60 - (intOf i).toNat)
  case atStart => exact ⟨0, _, _, by omega, rfl, Lesser.refl _, HA3.out, HB.out, S3.out⟩
  case round =>
    obtain ⟨k, La, Lb, hk, rfl, hinv, hqa, hqb, hs⟩ := hrel
    have A := Lib.hid hqa; clear hqa
    have B := Lib.hid hqb; clear hqb
    have S := Lib.hid hs; clear hs
    have I := Lib.hid hinv; clear hinv
    by_cases hc : k < len2 ∧ k < len3 ∧ k < 60
    · obtain ⟨hc1, hc2, hc3⟩ := hc
      obtain ⟨b, o, z, rfl, hcell⟩ := RowIn.at H2.out S.out k hc1
      obtain ⟨b', o', z', rfl, hcell'⟩ := RowIn.at H3.out S.out k hc2
      go_wp2_with fail
      all_goals
        refine (add_ok A.out _ _ (by unfold Fine; omega)).mono ?_
        rintro e w4 ⟨rfl, hq4, hf4⟩
        generalize hLa : push La _ = La' at hq4
        have HLa := Lib.hid hLa; clear hLa
        have A4 := Lib.hid hq4; clear hq4
        have B4 := Lib.hid (B.out.keep hf4 (by rintro (h | h) <;> omega) (by rintro (h | h) <;> omega))
        have S4 := Lib.hid (ofAdd S.out hf4 hra' hba')
        clear hf4
        go_wp2_with fail
        refine (add_ok B4.out _ _ (by unfold Fine; omega)).mono ?_
        rintro e w5 ⟨rfl, hq5, hf5⟩
        generalize hLb : push Lb _ = Lb' at hq5
        have HLb := Lib.hid hLb; clear hLb
        have B5 := Lib.hid hq5; clear hq5
        have A5 := Lib.hid (A4.out.keep hf5 (by rintro (h | h) <;> omega) (by rintro (h | h) <;> omega))
        have S5 := Lib.hid (ofAdd S4.out hf5 hrb' hbb')
        clear hf5
        have hinv' : Lesser La' Lb' := by
          rw [← HLa.out, ← HLb.out]
          exact Lesser.push I.out rfl (by simp only; omega)
        have hgood : gd La' G 100 = false ∨ (gd La' G 100 = true ∧ gd Lb' G 100 = true) := by
          cases hx : gd La' G 100 with
          | false => exact Or.inl rfl
          | true => exact Or.inr ⟨rfl, hinv'.good G hx⟩
        have I' := Lib.hid hinv'; clear hinv'
        rcases hgood with hga | ⟨hga, hgb⟩
        · have HGA := Lib.hid hga; clear hga
          go_wp2_with (first | (go_at_call 11; refine (num_any _ _).mono ?_; rintro e w6 ⟨rfl, rfl⟩) | (go_at_call 15; refine (good_is A5.out false HGA.out).mono ?_; rintro e w6 ⟨rfl, n6, rfl⟩))
          go_roundw
          case rel => exact ⟨k + 1, _, _, by omega, by go_num, I'.out, A5.out.drewN n6, B5.out.drewN n6, S5.out.drewN n6⟩
          case measure => simp [intOf]; omega
        · have HGA := Lib.hid hga; clear hga
          have HGB := Lib.hid hgb; clear hgb
          go_wp2_with (first | (go_at_call 11; refine (num_any _ _).mono ?_; rintro e w6 ⟨rfl, rfl⟩) | (go_at_call_of 15 (Value.pointer (some ⟨ba, 0, none⟩)); refine (good_is A5.out true HGA.out).mono ?_; rintro e w6 ⟨rfl, n6, rfl⟩) | (go_at_call_of 15 (Value.pointer (some ⟨bb, 0, none⟩)); refine (good_is (B5.out.drewN n6) true HGB.out).mono ?_; rintro e w6 ⟨rfl, n7, rfl⟩))
          go_roundw
          case rel => exact ⟨k + 1, _, _, by omega, by go_num, I'.out, A5.out.drewN (n6 + n7), B5.out.drewN (n6 + n7), S5.out.drewN (n6 + n7)⟩
          case measure => simp [intOf]; omega
    · have hx : (¬ k < len2) ∨ (k < len2 ∧ ¬ k < len3) ∨ (k < len2 ∧ k < len3 ∧ ¬ k < 60) := by omega
      clear hc
      rcases hx with hx | ⟨hx1, hx2⟩ | ⟨hx1, hx2, hx3⟩
      all_goals
        go_wp2_with (go_at_call 11; refine (num_any _ _).mono ?_; rintro e w6 ⟨rfl, rfl⟩)
        go_ret
        exact ⟨rfl, Same.below S.out⟩

end Go.Proofs.Ytbjahlapajfcaaa
