/- The walk over CircuitFails: it returns true. -/
import Derived.Test.YtmbnifnhalgdgaaBase
namespace Go.Proofs.Ytmbnifnhalgdgaa
open Go.RowKit

theorem and_mask (n m : Int) (k : Nat) (hk : k ≤ 62) (hm : (BitVec.ofInt 64 m).toNat = 2 ^ k - 1) : bits .and .i64 n m = n % ((2 ^ k : Nat) : Int) := by
  have key : (BitVec.ofInt 64 n &&& BitVec.ofInt 64 m).toNat = (n % ((2 ^ 64 : Nat) : Int)).toNat % 2 ^ k := by
    rw [BitVec.toNat_and, BitVec.toNat_ofInt, hm, Nat.and_two_pow_sub_one_eq_mod]
  show IntKind.i64.wrap ((BitVec.ofInt 64 n &&& BitVec.ofInt 64 m).toNat : Nat) = _
  rw [key, IntKind.wrap_i64]
  have hp : (2 : Nat) ^ k ≤ 2 ^ 62 := Nat.pow_le_pow_right (by omega) hk
  have hpos : 0 < (2 : Nat) ^ k := Nat.pos_of_ne_zero (by simp)
  have hd : (2 : Nat) ^ k ∣ 2 ^ 64 := Nat.pow_dvd_pow 2 (by omega)
  have e1 : (((n % ((2 ^ 64 : Nat) : Int)).toNat % 2 ^ k : Nat) : Int) = n % ((2 ^ k : Nat) : Int) := by
    rw [Int.natCast_emod, Int.toNat_of_nonneg (Int.emod_nonneg _ (by decide))]
    exact Int.emod_emod_of_dvd n (Int.natCast_dvd_natCast.2 hd)
  have hlt : (n % ((2 ^ 64 : Nat) : Int)).toNat % 2 ^ k < 2 ^ k := Nat.mod_lt _ hpos
  rw [e1]
  have h1 : 0 ≤ n % ((2 ^ k : Nat) : Int) := Int.emod_nonneg _ (by omega)
  have h2 : n % ((2 ^ k : Nat) : Int) < ((2 ^ k : Nat) : Int) := Int.emod_lt_of_pos _ (by omega)
  have h3 : ((2 ^ k : Nat) : Int) ≤ ((2 ^ 62 : Nat) : Int) := Int.ofNat_le.2 hp
  have h4 : ((2 ^ 62 : Nat) : Int) = 4611686018427387904 := by decide
  omega

@[go_sem] theorem and1 (n : Int) : bits .and .i64 n 1 = n % 2 := and_mask n 1 1 (by decide) (by decide)
@[go_sem] theorem and3 (n : Int) : bits .and .i64 n 3 = n % 4 := and_mask n 3 2 (by decide) (by decide)
@[go_sem] theorem and7 (n : Int) : bits .and .i64 n 7 = n % 8 := and_mask n 7 3 (by decide) (by decide)
@[go_sem] theorem and63 (n : Int) : bits .and .i64 n 63 = n % 64 := and_mask n 63 6 (by decide) (by decide)
@[go_sem] theorem and127 (n : Int) : bits .and .i64 n 127 = n % 128 := and_mask n 127 7 (by decide) (by decide)
@[go_sem] theorem and255 (n : Int) : bits .and .i64 n 255 = n % 256 := and_mask n 255 8 (by decide) (by decide)

/-- How many are up behind i dials, k of which fail. -/
def upsF (k i : Int) : Int := if i ≤ k then 0 else if i - k ≤ 4 then i - k else 4

theorem upsF_bound (k i : Int) : 0 ≤ upsF k i ∧ upsF k i ≤ 4 := by
  unfold upsF
  split
  · omega
  · split <;> omega

/-- What the switch is behind i dials. -/
def FailsAt (k i : Int) (S : SwS) : Prop := S.ports = 4 ∧ (S.n : Int) = upsF k i ∧ S.last = upsF k i ∧ S.owed = (if i ≤ k then k - i else 0)

theorem FailsAt.start (k : Int) (hk : 0 ≤ k) : FailsAt k 0 { newS 4 10 with owed := k } := by
  refine ⟨rfl, ?_, ?_, ?_⟩
  · unfold upsF; rw [if_pos hk]; rfl
  · unfold upsF; rw [if_pos hk]; rfl
  · rw [if_pos hk]; show k = k - 0; omega

theorem FailsAt.fail {k i : Int} {S : SwS} (h : FailsAt k i S) (hi : i < k) (x y : Int) (hx : Side x) (hy : y = 1 - x) : ∃ S', dialS S x y = ((0, 2503), S') ∧ FailsAt k (i + 1) S' := by
  obtain ⟨h1, h2, h3, h4⟩ := h
  have hu : upsF k i = 0 := by unfold upsF; rw [if_pos (by omega)]
  have hu' : upsF k (i + 1) = 0 := by unfold upsF; rw [if_pos (by omega)]
  rw [if_pos (by omega)] at h4
  refine ⟨{ S with owed := S.owed - 1 }, ?_, h1, ?_, ?_, ?_⟩
  · unfold dialS
    rw [if_neg (by rintro (h | h); exact h hx; exact h hy), if_neg (by omega), if_pos (by omega)]
  · show (S.n : Int) = _; omega
  · show S.last = _; omega
  · rw [if_pos (by omega)]; show S.owed - 1 = _; omega

theorem FailsAt.up {k i : Int} {S : SwS} (h : FailsAt k i S) (hi : k ≤ i) (hu : upsF k i < 4) (x y : Int) (hx : Side x) (hy : y = 1 - x) : ∃ S', dialS S x y = ((upsF k i + 1, 0), S') ∧ FailsAt k (i + 1) S' ∧ upsF k (i + 1) = upsF k i + 1 := by
  obtain ⟨h1, h2, h3, h4⟩ := h
  have h4' : S.owed = 0 := by
    rw [h4]; split <;> omega
  have e : upsF k (i + 1) = upsF k i + 1 := by
    unfold upsF at *
    by_cases c1 : i ≤ k
    · rw [if_pos c1, if_neg (by omega), if_pos (by omega)]; omega
    · rw [if_neg c1] at hu ⊢
      rw [if_neg (by omega)]
      by_cases c2 : i - k ≤ 4
      · rw [if_pos c2] at hu ⊢
        rw [if_pos (by omega)]; omega
      · rw [if_neg c2] at hu; omega
  refine ⟨{ S with last := S.last + 1, n := S.n + 1, up := setAt S.up (S.last + 1) (some (⟨[], 0⟩, ⟨[], 0⟩)) }, ?_, ⟨h1, ?_, ?_, ?_⟩, e⟩
  · unfold dialS
    rw [if_neg (by rintro (h | h); exact h hx; exact h hy), if_neg (by omega), if_neg (by omega), h3]
  · show ((S.n + 1 : Nat) : Int) = _; omega
  · show S.last + 1 = _; omega
  · rw [if_neg (by omega)]; exact h4'

theorem FailsAt.full {k i : Int} {S : SwS} (h : FailsAt k i S) (hu : ¬ upsF k i < 4) (x y : Int) (hx : Side x) (hy : y = 1 - x) : dialS S x y = ((0, 2501), S) ∧ FailsAt k (i + 1) S ∧ upsF k (i + 1) = upsF k i := by
  obtain ⟨h1, h2, h3, h4⟩ := h
  have hik : ¬ i - k < 4 := by
    intro hlt
    unfold upsF at hu
    by_cases c1 : i ≤ k
    · rw [if_pos c1] at hu; omega
    · rw [if_neg c1, if_pos (by omega)] at hu; omega
  have e0 : upsF k i = 4 := by
    unfold upsF; rw [if_neg (by omega)]; split <;> omega
  have e1 : upsF k (i + 1) = 4 := by
    unfold upsF; rw [if_neg (by omega)]; split <;> omega
  refine ⟨?_, ⟨h1, by omega, by omega, ?_⟩, by omega⟩
  · unfold dialS
    rw [if_neg (by rintro (h | h); exact h hx; exact h hy), if_pos (by omega)]
  · rw [if_neg (by omega)] at h4 ⊢; exact h4

set_option maxRecDepth 100000 in
set_option maxHeartbeats 1000000 in
theorem fails_walk (a0 a1 : Int) (_ : (Lit.int .i64 a0).wf = true) (_ : (Lit.int .i64 a1).wf = true) (w : World) :
    Calls Try.prog 3 #[.int .i64 a0, .int .i64 a1] w fun e w' => e = .returned (.bool true) ∧ Below w.heap.size w w' := by
  have k0 : 0 ≤ a0 % 8 := by omega
  have k1 : a0 % 8 ≤ 7 := by omega
  have m0 : 0 ≤ a1 % 8 := by omega
  have m1 : a1 % 8 ≤ 7 := by omega

  have HS0 := Lib.hid (FailsAt.start (a0 % 8) k0)
  go_enter Try.func3, Try.ntmps3
  go_wp2_with fail
  refine (awake_ok _).mono ?_
  rintro e wa ⟨rfl, hs⟩
  have SA := Lib.hid hs; clear hs
  go_wp2_with fail
  refine (swb_new 4 10 _ (by omega) (by omega) (by omega) (by omega)).mono ?_
  rintro e wb ⟨sb, rfl, hq⟩
  have HB := Lib.hid (hq.trans SA.out); clear hq SA
  go_wp2_with fail
  refine (swb_fail HB.out (a0 % 8) k0 (by omega)).mono ?_
  rintro e wc ⟨rfl, hq⟩
  have HC := Lib.hid hq; clear hq HB
  go_wp2_with fail
  go_loopw [9, 10] (fun u i wr => ∃ (i' : Nat) (S : SwS), i' ≤ 11 ∧ i = .int .i64 i' ∧ u = .int .i64 (upsF (a0 % 8) i') ∧ FailsAt (a0 % 8) i' S ∧ SwB w wr sb S) (fun _ i _ => 11 - (intOf i).toNat)
  case atStart => exact ⟨0, _, by omega, rfl, by show _ = Value.int IntKind.i64 (upsF (a0 % 8) 0); unfold upsF; rw [if_pos k0], HS0.out, HC.out⟩
  case round =>
    obtain ⟨i, S, hi, rfl, rfl, hfa, hsw⟩ := hrel
    clear HS0 HC
    have HFA := Lib.hid hfa
    have HSW := Lib.hid hsw; clear hsw
    have hub := upsF_bound (a0 % 8) i
    obtain ⟨ub0, ub1⟩ := hub
    have hl : S.last ≤ 1000000000 := by have := hfa.2.2.1; omega
    have HL := Lib.hid hl; clear hl hfa
    have x0 : 0 ≤ (i : Int) % 2 := by omega
    have x1 : (i : Int) % 2 ≤ 1 := by omega
    have hside : Side ((i : Int) % 2) := by unfold Side; omega
    have HX := Lib.hid hside; clear hside
    by_cases hlt : (i : Int) < 4 + a1 % 8
    · by_cases hc : (i : Int) < a0 % 8
      · obtain ⟨S', hr, hfa'⟩ := HFA.out.fail hc _ _ HX.out rfl
        have hn : (S'.n : Int) = upsF (a0 % 8) i := by
          have h1 := hfa'.2.1
          have : upsF (a0 % 8) ((i : Int) + 1) = 0 := by unfold upsF; rw [if_pos (by omega)]
          have h2 : upsF (a0 % 8) (i : Int) = 0 := by unfold upsF; rw [if_pos (by omega)]
          omega
        have hu2 : upsF (a0 % 8) ((i + 1 : Nat) : Int) = upsF (a0 % 8) i := by
          have h1 : upsF (a0 % 8) ((i + 1 : Nat) : Int) = 0 := by unfold upsF; rw [if_pos (by omega)]
          have h2 : upsF (a0 % 8) (i : Int) = 0 := by unfold upsF; rw [if_pos (by omega)]
          omega
        have HR := Lib.hid hr; clear hr
        have HF' : Hid (FailsAt (a0 % 8) ((i + 1 : Nat) : Int) S') := Lib.hid (by exact_mod_cast hfa'); clear hfa'
        have HN := Lib.hid hn; clear hn
        have HU := Lib.hid hu2; clear hu2
        go_wp2_with fail
        refine (swb_dial HSW.out HL.out _ _ _ HR.out).mono ?_
        rintro e wd ⟨rfl, hq⟩
        have HD := Lib.hid hq; clear hq
        go_wp2_with (first | (go_at_call 12; refine (num_any _ _).mono ?_; rintro e w2 ⟨rfl, rfl⟩) | (go_at_call 13; refine (swb_busy HD.out 0 (Or.inl rfl) _ HN.out).mono ?_; rintro e w2 ⟨rfl, rfl⟩))
        go_roundw
        case rel => exact ⟨i + 1, S', by omega, by go_num, by rw [HU.out], HF'.out, HD.out⟩
        case measure => simp [intOf]; omega
      · by_cases hu : upsF (a0 % 8) i < 4
        · obtain ⟨S', hr, hfa', hU⟩ := HFA.out.up (by omega) hu _ _ HX.out rfl
          have hn : (S'.n : Int) = upsF (a0 % 8) i + 1 := by have := hfa'.2.1; omega
          have HR := Lib.hid hr; clear hr
          have HF' : Hid (FailsAt (a0 % 8) ((i + 1 : Nat) : Int) S') := Lib.hid (by exact_mod_cast hfa'); clear hfa'
          have HN := Lib.hid hn; clear hn
          have HU : Hid (upsF (a0 % 8) ((i + 1 : Nat) : Int) = upsF (a0 % 8) i + 1) := Lib.hid (by exact_mod_cast hU); clear hU
          go_wp2_with fail
          refine (swb_dial HSW.out HL.out _ _ _ HR.out).mono ?_
          rintro e wd ⟨rfl, hq⟩
          have HD := Lib.hid hq; clear hq
          go_wp2_with (first | (go_at_call 12; refine (num_any _ _).mono ?_; rintro e w2 ⟨rfl, rfl⟩) | (go_at_call 13; refine (swb_busy HD.out 0 (Or.inl rfl) _ HN.out).mono ?_; rintro e w2 ⟨rfl, rfl⟩))
          go_roundw
          case rel => exact ⟨i + 1, S', by omega, by go_num, by rw [HU.out], HF'.out, HD.out⟩
          case measure => simp [intOf]; omega
        · obtain ⟨hr, hfa', hU⟩ := HFA.out.full hu _ _ HX.out rfl
          have hn : (S.n : Int) = upsF (a0 % 8) i := HFA.out.2.1
          have HR := Lib.hid hr; clear hr
          have HF' : Hid (FailsAt (a0 % 8) ((i + 1 : Nat) : Int) S) := Lib.hid (by exact_mod_cast hfa'); clear hfa'
          have HN := Lib.hid hn; clear hn
          have HU : Hid (upsF (a0 % 8) ((i + 1 : Nat) : Int) = upsF (a0 % 8) i) := Lib.hid (by exact_mod_cast hU); clear hU
          go_wp2_with fail
          refine (swb_dial HSW.out HL.out _ _ _ HR.out).mono ?_
          rintro e wd ⟨rfl, hq⟩
          have HD := Lib.hid hq; clear hq
          go_wp2_with (first | (go_at_call 12; refine (num_any _ _).mono ?_; rintro e w2 ⟨rfl, rfl⟩) | (go_at_call 13; refine (swb_busy HD.out 0 (Or.inl rfl) _ HN.out).mono ?_; rintro e w2 ⟨rfl, rfl⟩))
          go_roundw
          case rel => exact ⟨i + 1, S, by omega, by go_num, by rw [HU.out], HF'.out, HD.out⟩
          case measure => simp [intOf]; omega
    · go_wp2_with fail
      refine (fail_bad sb (-1) _ (by omega)).mono ?_
      rintro e wd ⟨rfl, rfl⟩
      go_wp2_with (go_at_call 12; refine (num_any _ _).mono ?_; rintro e w2 ⟨rfl, rfl⟩)
      go_ret
      exact ⟨rfl, Same.below HSW.out.same⟩

end Go.Proofs.Ytmbnifnhalgdgaa
