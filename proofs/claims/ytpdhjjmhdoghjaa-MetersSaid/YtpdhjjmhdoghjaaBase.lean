/- The walk over awake of chapter 23, and small facts for the laws. -/
import Derived.Test.YtpdhjjmhdoghjaaTick
import Derived.OpenShut
import Derived.Deep.RegionWith
namespace Go.Proofs.Ytpdhjjmhdoghjaa
open Go.RowKit

theorem ofAdd {w w1 w2 : World} {r b : Nat} (h : Same w w1) (k : Fr (fun k => k = r ∨ k = b) w1 w2) (hr : w.heap.size ≤ r) (hb : w.heap.size ≤ b) : Same w w2 :=
  ⟨k.os.trans h.os, k.tape.trans h.tape, k.output.trans h.output, Nat.le_trans h.size k.size,
    fun i hi hs => (k.block i (Nat.lt_of_lt_of_le hi h.size) (by omega)).trans (h.block i hi hs)⟩

set_option maxHeartbeats 400000 in
theorem awake_ok (w : World) : Calls Try.prog 13 #[] w fun e w' => e = .returned (.bool true) ∧ Same w w' := by
  go_enter Try.func13, Try.ntmps13
  go_wp2_with fail
  refine (new_ok 2 800 200 2 _ (by decide)).mono ?_
  rintro e w1 ⟨r, b, rfl, hq1, hr1, hb1, hs1⟩
  have H1 := Lib.hid hq1; clear hq1
  have S1 := Lib.hid hs1; clear hs1
  go_wp2_with (go_at_call 12; refine (num_any _ _).mono ?_; rintro e w2 ⟨rfl, rfl⟩)
  refine (tick_ok H1.out 90 100 (by unfold Fine; omega) (0, 1, 1) (by decide)).mono ?_
  rintro e w3 ⟨rfl, hq3, hf3⟩
  have H3 := Lib.hid hq3; clear hq3 H1
  have S3 := Lib.hid (ofAdd S1.out hf3 hr1 hb1); clear hf3 S1
  go_wp2_with fail
  refine (share_ok H3.out 900 (by decide)).mono ?_
  rintro e w4 ⟨rfl, rfl⟩
  go_wp2_with fail
  refine (tick_ok H3.out 90 100 (by unfold Fine; omega) (1, 1, 0) (by decide)).mono ?_
  rintro e w5 ⟨rfl, hq5, hf5⟩
  have S5 := Lib.hid (ofAdd S3.out hf5 hr1 hb1); clear hf5 S3 hq5 H3
  go_wp2_with fail
  refine (tick_bad b (-1) 1 _ (by omega)).mono ?_
  rintro e w6 ⟨rfl, rfl⟩
  go_wp2_with fail
  refine (new_bad 2 0 0 2 _ (by decide)).mono ?_
  rintro e w7 ⟨rfl, rfl⟩
  go_wp2_with (go_at_call 12; refine (num_any _ _).mono ?_; rintro e w2 ⟨rfl, rfl⟩)
  go_ret
  exact ⟨rfl, S5.out⟩

/-- A slice of numbers that came in. -/
def RowIn (k : IntKind) (w : World) (a : Option Addr) (len cap : Nat) (zs : List Int) : Prop :=
  (a = none ∧ len = 0 ∧ cap = 0 ∧ zs = []) ∨
  ∃ x, a = some x ∧ len ≤ cap ∧ cap ≤ maxLen ∧ zs.length = cap ∧ (∀ i, i < zs.length → w.cell? (x.add i) = some (.int k (zs.getD i 0))) ∧ ∀ n ∈ zs, (Lit.int k n).wf = true

theorem and_mask (n m : Int) (k : Nat) (hk : k ≤ 62) (hm : (BitVec.ofInt 64 m).toNat = 2 ^ k - 1) : bits .and .i64 n m = n % ((2 ^ k : Nat) : Int) := by
  have key : (BitVec.ofInt 64 n &&& BitVec.ofInt 64 m).toNat = (n % ((2 ^ 64 : Nat) : Int)).toNat % 2 ^ k := by
    rw [BitVec.toNat_and, BitVec.toNat_ofInt, hm, Nat.and_two_pow_sub_one_eq_mod]
  show IntKind.i64.wrap ((BitVec.ofInt 64 n &&& BitVec.ofInt 64 m).toNat : Nat) = _
  rw [key, IntKind.wrap_i64]
  have hp : (2 : Nat) ^ k ≤ 2 ^ 62 := Nat.pow_le_pow_right (by omega) hk
  have hpos : 0 < (2 : Nat) ^ k := Nat.pos_of_ne_zero (by simp)
  have hd : (2 : Nat) ^ k ∣ 2 ^ 64 := Nat.pow_dvd_pow 2 (by omega)
  have e1 : (((n % ((2 ^ 64 : Nat) : Int)).toNat % 2 ^ k : Nat) : Int) = n % ((2 ^ k : Nat) : Int) := by
    rw [Int.natCast_emod, Int.toNat_of_nonneg (Int.emod_nonneg _ (by decide))]
    exact Int.emod_emod_of_dvd n (Int.natCast_dvd_natCast.2 hd)
  have hlt : (n % ((2 ^ 64 : Nat) : Int)).toNat % 2 ^ k < 2 ^ k := Nat.mod_lt _ hpos
  rw [e1]
  have h1 : 0 ≤ n % ((2 ^ k : Nat) : Int) := Int.emod_nonneg _ (by omega)
  have h2 : n % ((2 ^ k : Nat) : Int) < ((2 ^ k : Nat) : Int) := Int.emod_lt_of_pos _ (by omega)
  have h3 : ((2 ^ k : Nat) : Int) ≤ ((2 ^ 62 : Nat) : Int) := Int.ofNat_le.2 hp
  have h4 : ((2 ^ 62 : Nat) : Int) = 4611686018427387904 := by decide
  omega

@[go_sem] theorem and1 (n : Int) : bits .and .i64 n 1 = n % 2 := and_mask n 1 1 (by decide) (by decide)
@[go_sem] theorem and3 (n : Int) : bits .and .i64 n 3 = n % 4 := and_mask n 3 2 (by decide) (by decide)
@[go_sem] theorem and7 (n : Int) : bits .and .i64 n 7 = n % 8 := and_mask n 7 3 (by decide) (by decide)
@[go_sem] theorem and15 (n : Int) : bits .and .i64 n 15 = n % 16 := and_mask n 15 4 (by decide) (by decide)
@[go_sem] theorem and63 (n : Int) : bits .and .i64 n 63 = n % 64 := and_mask n 63 6 (by decide) (by decide)
@[go_sem] theorem and1023 (n : Int) : bits .and .i64 n 1023 = n % 1024 := and_mask n 1023 10 (by decide) (by decide)
@[go_sem] theorem and4095 (n : Int) : bits .and .i64 n 4095 = n % 4096 := and_mask n 4095 12 (by decide) (by decide)
@[go_sem] theorem and65535 (n : Int) : bits .and .i64 n 65535 = n % 65536 := and_mask n 65535 16 (by decide) (by decide)

/-- An element of a slice that came in, in a later world. -/
theorem RowIn.at {k : IntKind} {w wr : World} {a : Option Addr} {len cap : Nat} {zs : List Int} (h : RowIn k w a len cap zs) (hs : Same w wr) (i : Nat) (hi : i < len) :
    ∃ b o z, a = some ⟨b, o, none⟩ ∧ wr.cell? ⟨b, o + i, none⟩ = some (.int k z) := by
  rcases h with ⟨_, rfl, _, _⟩ | ⟨x, rfl, hl, _, hz, hc, _⟩
  · omega
  · obtain ⟨b, o, rfl, hc'⟩ := Go.ints_at hc (by omega)
    refine ⟨b, o, zs.getD i 0, rfl, ?_⟩
    have h2 := hc' i (by omega)
    have hb : b < w.heap.size := by
      unfold World.cell? at h2
      split at h2
      · rename_i hh
        exact (Array.getElem?_eq_some_iff.1 hh).1
      · simp at h2
    rw [← h2]
    exact World.cell?_of_block (w := w) (hs.block b hb id)

end Go.Proofs.Ytpdhjjmhdoghjaa
