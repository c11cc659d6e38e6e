/- The walk over the run's turn, and New's test. -/
import Derived.Test.YtpdhjjmhdoghjaaRing
import Derived.BigQuiet
import Derived.BigRegion
import Derived.Deep.QuietTactic
namespace Go.Proofs.Ytpdhjjmhdoghjaa
open Go.RowKit

theorem ret_bool {a b : Bool} (h : a = b) : Ending.returned (.bool a) = .returned (.bool b) := by rw [h]

set_option maxHeartbeats 400000 in
theorem num_any (a : Int) (w : World) : Calls Try.prog 12 #[.int .i64 a] w fun e w' => e = .returned (.int .i64 a) ∧ w = w' := by
  go_enter Try.func12, Try.ntmps12
  go_wp2
  go_ret
  exact ⟨rfl, rfl⟩

/-- What a meter's block holds. -/
def mCells (way long h l d : Int) (r n at' : Nat) (ss sg sh : Int) : Array Value := #[.int .i64 way, .int .i64 long, .int .i64 h, .int .i64 l, .int .i64 d, .slice (some ⟨r, 0, none⟩) n n, .int .i64 at', .int .i64 ss, .int .i64 sg, .int .i64 sh]

/-- A run goes on: the answer, its way and how long it was. -/
def turnF (x hold way long : Int) : Int × Int × Int :=
  if x = 0 then (0, 0, if x = way then long else 0)
  else if x = way then (if long + 1 < hold then (0, x, long + 1) else (x, x, 0)) else (if 1 < hold then (0, x, 1) else (x, x, 0))

set_option maxHeartbeats 1000000 in
theorem turn_ok (b : Nat) (x way long h l d : Int) (r n at' : Nat) (ss sg sh : Int) (w : World) (hb : Blk w b (mCells way long h l d r n at' ss sg sh) 53) (hl : 0 ≤ long ∧ long ≤ 100000) :
    Calls Try.prog 19 #[.pointer (some ⟨b, 0, none⟩), .int .i64 x, .int .i64 d] w fun e w' => e = .returned (.int .i64 (turnF x d way long).1) ∧
      Blk w' b (mCells (turnF x d way long).2.1 (turnF x d way long).2.2 h l d r n at' ss sg sh) 53 ∧ Fr (fun k => k = b) w w' := by
  have c0 : w.cell? ⟨b, 0, none⟩ = some (.int .i64 way) := hb.cell 0
  have c1 : w.cell? ⟨b, 1, none⟩ = some (.int .i64 long) := hb.cell 1
  have f0 := hb.frozen 0
  have f1 := hb.frozen 1
  have HB := Lib.hid hb; clear hb
  obtain ⟨hl0, hl1⟩ := hl
  have fs : ∀ (w : World) (i : Nat) (u : Value), Fr (fun k => k = b) w (w.setCell ⟨b, i, none⟩ u) := fun w i u => Fr.setCell (S := fun k => k = b) (Fr.refl _ _) (Or.inr rfl) u
  have FS := Lib.hid fs; clear fs
  by_cases hx : x = way
  · subst hx
    by_cases h0 : x = 0
    · subst h0
      have ht : turnF 0 d 0 long = (0, 0, long) := by simp [turnF]
      rw [ht]
      go_enter Try.func19, Try.ntmps19
      go_wp2
      go_ret
      exact ⟨rfl, HB.out, Fr.refl _ _⟩
    · have e0 : (x == 0) = false := by rw [beq_eq_false_iff_ne]; exact h0
      by_cases hd : long + 1 < d
      · have ht : turnF x d x long = (0, x, long + 1) := by simp [turnF, h0, hd]
        rw [ht]
        clear h0
        go_enter Try.func19, Try.ntmps19
        go_wp2
        go_ret
        exact ⟨rfl, HB.out.set 1 _, FS.out _ _ _⟩
      · have ht : turnF x d x long = (x, x, 0) := by simp [turnF, h0, hd]
        rw [ht]
        clear h0
        go_enter Try.func19, Try.ntmps19
        go_wp2
        go_ret
        exact ⟨rfl, (HB.out.set 1 _).set 1 _, (FS.out _ _ _).trans (FS.out _ _ _)⟩
  · have en : (x == way) = false := by rw [beq_eq_false_iff_ne]; exact hx
    have en2 : (x != way) = true := by rw [bne_iff_ne]; exact hx
    by_cases h0 : x = 0
    · subst h0
      have ht : turnF 0 d way long = (0, 0, 0) := by simp [turnF, hx]
      rw [ht]
      clear hx en
      go_enter Try.func19, Try.ntmps19
      go_wp2
      go_ret
      exact ⟨rfl, (HB.out.set 0 _).set 1 _, (FS.out _ _ _).trans (FS.out _ _ _)⟩
    · have e0 : (x == 0) = false := by rw [beq_eq_false_iff_ne]; exact h0
      by_cases hd : 1 < d
      · have ht : turnF x d way long = (0, x, 1) := by simp [turnF, h0, hd, hx]
        rw [ht]
        clear h0 hx en
        have h3 := ((HB.out.set 0 (.int .i64 x)).set 1 (.int .i64 0)).set 1 (.int .i64 1)
        have q1 : (((w.setCell ⟨b, 0, none⟩ (.int .i64 x)).setCell ⟨b, 1, none⟩ (.int .i64 0)).setCell ⟨b, 1, none⟩ (.int .i64 1)).cell? ⟨b, 1, none⟩ = some (.int .i64 1) := h3.cell 1
        clear h3
        go_enter Try.func19, Try.ntmps19
        go_wp2
        go_ret
        exact ⟨rfl, ((HB.out.set 0 _).set 1 _).set 1 _, ((FS.out _ _ _).trans (FS.out _ _ _)).trans (FS.out _ _ _)⟩
      · have ht : turnF x d way long = (x, x, 0) := by simp [turnF, h0, hd, hx]
        rw [ht]
        clear h0 hx en
        have h3 := ((HB.out.set 0 (.int .i64 x)).set 1 (.int .i64 0)).set 1 (.int .i64 1)
        have q1 : (((w.setCell ⟨b, 0, none⟩ (.int .i64 x)).setCell ⟨b, 1, none⟩ (.int .i64 0)).setCell ⟨b, 1, none⟩ (.int .i64 1)).cell? ⟨b, 1, none⟩ = some (.int .i64 1) := h3.cell 1
        clear h3
        go_enter Try.func19, Try.ntmps19
        go_wp2
        go_ret
        exact ⟨rfl, (((HB.out.set 0 _).set 1 _).set 1 _).set 1 _, (((FS.out _ _ _).trans (FS.out _ _ _)).trans (FS.out _ _ _)).trans (FS.out _ _ _)⟩

end Go.Proofs.Ytpdhjjmhdoghjaa
