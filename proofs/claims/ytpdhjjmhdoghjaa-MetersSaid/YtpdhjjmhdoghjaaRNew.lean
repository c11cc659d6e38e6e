/- Walks over the reference of chapter 23: NewMeter, and what the two rows hold. -/
import Derived.Test.YtpdhjjmhdoghjaaQueue
import Derived.BigQuiet
import Derived.BigRegion
import Derived.Deep.QuietTactic
namespace Go.Proofs.Ytpdhjjmhdoghjaa
open Go.RowKit

set_option maxRecDepth 100000 in
set_option maxHeartbeats 400000 in
theorem rnew_bad (n h l d : Int) (w : World) (hv : mayM n h l d = false) :
    Calls Try.prog 11 #[.int .i64 n, .int .i64 h, .int .i64 l, .int .i64 d] w fun e w' => e = .returned (.tuple #[.pointer none, .int .i64 2300]) ∧ w = w' := by
  have hw : n < 1 ∨ 32 < n ∨ h < 1 ∨ 1000 < h ∨ l < 0 ∨ h ≤ l ∨ d < 1 ∨ 4096 < d := by
    have := hv
    simp only [mayM, Bool.and_eq_false_iff, decide_eq_false_iff_not] at this
    omega
  clear hv
  go_enter Try.func11, Try.ntmps11
  go_wp2
  all_goals go_ret2
  all_goals exact ⟨rfl, rfl⟩

set_option maxRecDepth 100000 in
set_option maxHeartbeats 400000 in
theorem rnew_good (n h l d : Int) (w : World) (hv : mayM n h l d = true) :
    Calls Try.prog 11 #[.int .i64 n, .int .i64 h, .int .i64 l, .int .i64 d] w fun e w' => e = .returned (.tuple #[.pointer (some ⟨w.heap.size, 0, none⟩), .int .i64 0]) ∧
      w' = w.alloc (.cells #[.int .i64 0, .int .i64 n, .int .i64 h, .int .i64 l, .int .i64 d, .slice none 0 0, .slice none 0 0, .int .i64 0, .int .i64 0] 38) := by
  obtain ⟨⟨h1, h2⟩, h3, h4, h5, h6, h7, h8⟩ := may_bounds hv
  clear hv
  go_enter Try.func11, Try.ntmps11
  go_wp2
  go_ret2
  exact ⟨rfl, rfl⟩

theorem info3 : (Try.prog.info? 3).map (fun i => (i.zero, i.size, i.bytes)) = some (some (.int .i64 0), 1, 8) := by kernel_rfl

theorem fr_set (w : World) (b i : Nat) (u : Value) : Fr (fun k => k = b) w (w.setCell ⟨b, i, none⟩ u) :=
  Fr.setCell (S := fun k => k = b) (Fr.refl _ _) (Or.inr rfl) _

def sents (L : List (Int × Int)) : List Value := L.map fun p => .int .i64 p.1
def gots (L : List (Int × Int)) : List Value := L.map fun p => .int .i64 p.2

/-- One more; of more than n the first goes. -/
def add1 (n : Int) (L : List (Int × Int)) (p : Int × Int) : List (Int × Int) := if (L.length : Int) < n then L ++ [p] else (L ++ [p]).tail

theorem tail_length (L : List (Int × Int)) (p : Int × Int) : (L ++ [p]).tail.length = L.length := by simp

theorem sents_tail (L : List (Int × Int)) (p : Int × Int) : ∃ u, sents (L ++ [p]) = [u] ++ sents (L ++ [p]).tail ∧ gots (L ++ [p]) = gots (L ++ [p]) := by
  cases L with
  | nil => exact ⟨_, rfl, rfl⟩
  | cons q L => exact ⟨_, rfl, rfl⟩

theorem gots_tail (L : List (Int × Int)) (p : Int × Int) : ∃ u, gots (L ++ [p]) = [u] ++ gots (L ++ [p]).tail := by
  cases L with
  | nil => exact ⟨_, rfl⟩
  | cons q L => exact ⟨_, rfl⟩


end Go.Proofs.Ytpdhjjmhdoghjaa
