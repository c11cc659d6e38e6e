/- Small facts for the loops of chapter 17: rows that came in, booleans; conditions: none but those written. -/
import Derived.Test.YtbjahlapajfcaaaAwake
import Derived.OpenShut
namespace Go.Proofs.Ytbjahlapajfcaaa
open Go.RowKit

theorem ret_bool {a b : Bool} (h : a = b) : Ending.returned (.bool a) = .returned (.bool b) := by rw [h]

theorem gd_zero (n : Nat) (g o : Int) : gd (List.replicate n (0, 0)) g o = true := by
  unfold gd
  rw [sumS_replicate, sumG_replicate]
  simp

/-- A slice of numbers that came in. -/
def RowIn (k : IntKind) (w : World) (a : Option Addr) (len cap : Nat) (zs : List Int) : Prop :=
  (a = none ∧ len = 0 ∧ cap = 0 ∧ zs = []) ∨
  ∃ x, a = some x ∧ len ≤ cap ∧ cap ≤ maxLen ∧ zs.length = cap ∧ (∀ i, i < zs.length → w.cell? (x.add i) = some (.int k (zs.getD i 0))) ∧ ∀ n ∈ zs, (Lit.int k n).wf = true

theorem and_mask (n m : Int) (k : Nat) (hk : k ≤ 62) (hm : (BitVec.ofInt 64 m).toNat = 2 ^ k - 1) : bits .and .i64 n m = n % ((2 ^ k : Nat) : Int) := by
  have key : (BitVec.ofInt 64 n &&& BitVec.ofInt 64 m).toNat = (n % ((2 ^ 64 : Nat) : Int)).toNat % 2 ^ k := by
    rw [BitVec.toNat_and, BitVec.toNat_ofInt, hm, Nat.and_two_pow_sub_one_eq_mod]
  show IntKind.i64.wrap ((BitVec.ofInt 64 n &&& BitVec.ofInt 64 m).toNat : Nat) = _
  rw [key, IntKind.wrap_i64]
  have hp : (2 : Nat) ^ k ≤ 2 ^ 62 := Nat.pow_le_pow_right (by omega) hk
  have hpos : 0 < (2 : Nat) ^ k := Nat.pos_of_ne_zero (by simp)
  have hd : (2 : Nat) ^ k ∣ 2 ^ 64 := Nat.pow_dvd_pow 2 (by omega)
  have e1 : (((n % ((2 ^ 64 : Nat) : Int)).toNat % 2 ^ k : Nat) : Int) = n % ((2 ^ k : Nat) : Int) := by
    rw [Int.natCast_emod, Int.toNat_of_nonneg (Int.emod_nonneg _ (by decide))]
    exact Int.emod_emod_of_dvd n (Int.natCast_dvd_natCast.2 hd)
  have hlt : (n % ((2 ^ 64 : Nat) : Int)).toNat % 2 ^ k < 2 ^ k := Nat.mod_lt _ hpos
  rw [e1]
  have h1 : 0 ≤ n % ((2 ^ k : Nat) : Int) := Int.emod_nonneg _ (by omega)
  have h2 : n % ((2 ^ k : Nat) : Int) < ((2 ^ k : Nat) : Int) := Int.emod_lt_of_pos _ (by omega)
  have h3 : ((2 ^ k : Nat) : Int) ≤ ((2 ^ 62 : Nat) : Int) := Int.ofNat_le.2 hp
  have h4 : ((2 ^ 62 : Nat) : Int) = 4611686018427387904 := by decide
  omega

@[go_sem] theorem and1 (n : Int) : bits .and .i64 n 1 = n % 2 := and_mask n 1 1 (by decide) (by decide)
@[go_sem] theorem and15 (n : Int) : bits .and .i64 n 15 = n % 16 := and_mask n 15 4 (by decide) (by decide)
@[go_sem] theorem and31 (n : Int) : bits .and .i64 n 31 = n % 32 := and_mask n 31 5 (by decide) (by decide)
@[go_sem] theorem and63 (n : Int) : bits .and .i64 n 63 = n % 64 := and_mask n 63 6 (by decide) (by decide)
@[go_sem] theorem and255 (n : Int) : bits .and .i64 n 255 = n % 256 := and_mask n 255 8 (by decide) (by decide)
@[go_sem] theorem and1023 (n : Int) : bits .and .i64 n 1023 = n % 1024 := and_mask n 1023 10 (by decide) (by decide)
@[go_sem] theorem and4095 (n : Int) : bits .and .i64 n 4095 = n % 4096 := and_mask n 4095 12 (by decide) (by decide)

theorem umod101 (g : Int) : 0 ≤ wrap64 ((IntKind.u64.wrap g).tmod 101) ∧ wrap64 ((IntKind.u64.wrap g).tmod 101) ≤ 100 := by
  have h0 : 0 ≤ IntKind.u64.wrap g := by
    simp only [IntKind.wrap, IntKind.bits, IntKind.signed]
    simp
    omega
  rw [Int.tmod_eq_emod_of_nonneg h0, IntWalk.wrap64_in _ ⟨by omega, by omega⟩]
  omega

/-- An element of a slice that came in, in a later world. -/
theorem RowIn.at {k : IntKind} {w wr : World} {a : Option Addr} {len cap : Nat} {zs : List Int} (h : RowIn k w a len cap zs) (hs : Same w wr) (i : Nat) (hi : i < len) :
    ∃ b o z, a = some ⟨b, o, none⟩ ∧ wr.cell? ⟨b, o + i, none⟩ = some (.int k z) := by
  rcases h with ⟨_, rfl, _, _⟩ | ⟨x, rfl, hl, _, hz, hc, _⟩
  · omega
  · obtain ⟨b, o, rfl, hc'⟩ := Go.ints_at hc (by omega)
    refine ⟨b, o, zs.getD i 0, rfl, ?_⟩
    have h2 := hc' i (by omega)
    have hb : b < w.heap.size := by
      unfold World.cell? at h2
      split at h2
      · rename_i hh
        exact (Array.getElem?_eq_some_iff.1 hh).1
      · simp at h2
    rw [← h2]
    exact World.cell?_of_block (w := w) (hs.block b hb id)

end Go.Proofs.Ytbjahlapajfcaaa
