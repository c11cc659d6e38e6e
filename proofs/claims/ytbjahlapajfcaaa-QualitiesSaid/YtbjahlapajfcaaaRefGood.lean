/- The walk over the reference's Good of chapter 17, and what its object is. -/
import Derived.Test.YtbjahlapajfcaaaRef
namespace Go.Proofs.Ytbjahlapajfcaaa
open Go.RowKit

theorem Holds.form {w : World} {g : Option Nat} {v : Value} {n : Nat} {xs : List Value} (h : Holds w g 1 v n xs) :
    ∃ ao cap, v = .slice ao n cap ∧ ∀ j u, xs[j]? = some u → ∃ b off, ao = some ⟨b, off, none⟩ ∧ w.cell? ⟨b, off + j, none⟩ = some u := by
  obtain ⟨hl, hv⟩ := h
  rcases hv with ⟨_, rfl, rfl⟩ | ⟨b, off, cap, _, rfl, _, _, hc, _⟩
  · refine ⟨none, 0, rfl, fun j u hu => ?_⟩
    have : xs = [] := List.eq_nil_of_length_eq_zero (by simpa using hl)
    rw [this] at hu; simp at hu
  · exact ⟨_, cap, rfl, fun j u hu => ⟨b, off, rfl, hc j u hu⟩⟩

theorem sum_take (L : List (Int × Int)) (k : Nat) (h : k < L.length) : sumS (L.take (k + 1)) = sumS (L.take k) + L[k].1 ∧ sumG (L.take (k + 1)) = sumG (L.take k) + L[k].2 := by
  rw [List.take_succ_eq_append_getElem h, sumS_append, sumG_append, sumS_cons, sumG_cons, sumS_nil, sumG_nil]
  constructor <;> omega

theorem fine_take {L : List (Int × Int)} (h : ∀ p ∈ L, Fine p) (k : Nat) : ∀ p ∈ L.take k, Fine p := fun p hp => h p (List.mem_of_mem_take hp)

set_option maxHeartbeats 1000000 in
theorem rgood_any (b : Nat) (n g o : Int) (gs gg : Option Nat) (vs vg : Value) (L : List (Int × Int)) (w : World)
    (hb : Blk w b #[.int .i64 n, .int .i64 g, .int .i64 o, vs, vg] 45) (hs : Holds w gs 1 vs L.length (sents L)) (hg : Holds w gg 1 vg L.length (gots L))
    (hL : ∀ p ∈ L, Fine p) (hl : L.length ≤ 32) (h5 : 0 ≤ g) (h6 : g ≤ o) (h4 : o ≤ 1000) :
    Calls Try.prog 16 #[.pointer (some ⟨b, 0, none⟩)] w fun e w' => e = .returned (.bool (gd L g o)) ∧ ∃ n, w' = w.drewN n := by
  obtain ⟨sa, cs, rfl, hcs⟩ := hs.form
  obtain ⟨ag, cg, rfl, hcg⟩ := hg.form
  have c1 : w.cell? ⟨b, 1, none⟩ = some (.int .i64 g) := hb.cell 1
  have c2 : w.cell? ⟨b, 2, none⟩ = some (.int .i64 o) := hb.cell 2
  have c3 : w.cell? ⟨b, 3, none⟩ = some (.slice sa L.length cs) := hb.cell 3
  have c4 : w.cell? ⟨b, 4, none⟩ = some (.slice ag L.length cg) := hb.cell 4
  have HCS := Lib.hid hcs; clear hcs
  have HCG := Lib.hid hcg; clear hcg
  have HL := Lib.hid hL; clear hL
  clear hb hs hg
  go_enter Try.func16, Try.ntmps16
  go_wp2
  go_loop [3, 4, 5] (fun x y i => ∃ k : Nat, k ≤ L.length ∧ i = .int .i64 k ∧ x = .int .i64 (sumS (L.take k)) ∧ y = .int .i64 (sumG (L.take k))) (fun _ _ i => L.length - (intOf i).toNat)
  case atStart => exact ⟨0, Nat.zero_le _, rfl, rfl, rfl⟩
  case round =>
    obtain ⟨k, hk, rfl, rfl, rfl⟩ := hrel
    have hbd := sums_bound (L.take k) (fine_take HL.out k)
    have hbl : (L.take k).length ≤ 32 := Nat.le_trans (List.length_take_le _ _) (by omega)
    by_cases hlt : k < L.length
    · obtain ⟨b1, o1, rfl, d1⟩ := HCS.out k (.int .i64 L[k].1) (by simp [sents, hlt])
      obtain ⟨b2, o2, rfl, d2⟩ := HCG.out k (.int .i64 L[k].2) (by simp [gots, hlt])
      have hf : Fine L[k] := HL.out _ (List.getElem_mem hlt)
      unfold Fine at hf
      obtain ⟨f1, f2, f3⟩ := hf
      have hst := Lib.hid (sum_take L k hlt)
      generalize hX : sumS (L.take k) = X at *
      generalize hY : sumG (L.take k) = Y at *
      generalize hP : L[k].1 = P at *
      generalize hR : L[k].2 = R at *
      clear hX hY hP hR
      obtain ⟨e1, e2, e3, e4⟩ := hbd
      have e5 : X ≤ 2147483647 * 32 := by omega
      clear e4 hbl
      go_wp2
      go_round
      case rel => exact ⟨k + 1, by omega, by go_num, by rw [hst.out.1], by rw [hst.out.2]⟩
      case measure => simp [intOf]; omega
    · have hkk : k = L.length := by omega
      subst hkk
      rw [List.take_length] at *
      have hgd : gd L g o = decide (sumS L * g ≤ sumG L * o) := rfl
      generalize sumS L = X at *
      generalize sumG L = Y at *
      obtain ⟨e1, e2, e3, e4⟩ := hbd
      have e5 : X ≤ 2147483647 * 32 := by omega
      clear e4 hbl
      have m1 : 0 ≤ X * g := Int.mul_nonneg e1 h5
      have m2 : 0 ≤ Y * o := Int.mul_nonneg e2 (by omega)
      have m3 : X * g ≤ 2147483647 * 32 * 1000 := Int.mul_le_mul e5 (by omega) h5 (by omega)
      have m4 : Y * o ≤ 2147483647 * 32 * 1000 := Int.mul_le_mul (by omega) (by omega) (by omega) (by omega)
      have HGD := Lib.hid hgd; clear hgd
      go_wp2
      go_quiet (fail)
      go_wp2
      go_ret
      exact ⟨by rw [HGD.out]; rfl, _, rfl⟩

end Go.Proofs.Ytbjahlapajfcaaa
