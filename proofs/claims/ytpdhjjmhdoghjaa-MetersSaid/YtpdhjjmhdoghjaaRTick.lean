/- The walk over the reference's Tick of chapter 23. -/
import Derived.Test.YtpdhjjmhdoghjaaRNew
import Derived.Deep.CutBlock
namespace Go.Proofs.Ytpdhjjmhdoghjaa
open Go.RowKit

/-- The reference's object. -/
def rCells (sh n h l d : Int) (vs vg : Value) (ab be : Int) : Array Value := #[.int .i64 sh, .int .i64 n, .int .i64 h, .int .i64 l, .int .i64 d, vs, vg, .int .i64 ab, .int .i64 be]

set_option maxRecDepth 100000 in
theorem rtick_bad (b : Nat) (x y : Int) (w : World) (hx : x < 0 ∨ 2147483647 < x ∨ y < 0 ∨ 2147483647 < y) :
    Calls Try.prog 15 #[.pointer (some ⟨b, 0, none⟩), .int .i64 x, .int .i64 y] w fun e w' => e = .returned (.tuple #[.int .i64 0, .int .i64 2300]) ∧ w = w' := by
  go_enter Try.func15, Try.ntmps15
  go_wp2
  all_goals go_ret2
  all_goals exact ⟨rfl, rfl⟩

/-- What the two cuts leave. -/
theorem full_end (B b b1 off1 cap1 b2 off2 cap2 : Nat) (sh n h l d ab be : Int) (L : List (Int × Int)) (p : Int × Int) (W : World) (hB : B ≤ b) (h0 : B ≤ W.heap.size)
    (hb : Blk W b (rCells sh n h l d (.slice (some ⟨b1, off1, none⟩) (L.length + 1) cap1) (.slice (some ⟨b2, off2, none⟩) (L.length + 1) cap2) ab be) 38)
    (hs : Holds W (some b1) 1 (.slice (some ⟨b1, off1, none⟩) (L.length + 1) cap1) (L.length + 1) (sents (L ++ [p])))
    (hg : Holds W (some b2) 1 (.slice (some ⟨b2, off2, none⟩) (L.length + 1) cap2) (L.length + 1) (gots (L ++ [p])))
    (n1 : b1 ≠ b) (n2 : b2 ≠ b) (t1 t2 : Value)
    (ht1 : t1 = .slice (some (if cap1 = 1 then ⟨b1, off1, none⟩ else ⟨b1, off1 + 1, none⟩)) L.length (cap1 - 1)) (ht2 : t2 = .slice (some (if cap2 = 1 then ⟨b2, off2, none⟩ else ⟨b2, off2 + 1, none⟩)) L.length (cap2 - 1)) :
    Blk ((W.setCell ⟨b, 5, none⟩ t1).setCell ⟨b, 6, none⟩ t2) b (rCells sh n h l d t1 t2 ab be) 38 ∧
    Holds ((W.setCell ⟨b, 5, none⟩ t1).setCell ⟨b, 6, none⟩ t2) (some b1) 1 t1 L.length (sents (L ++ [p]).tail) ∧
    Holds ((W.setCell ⟨b, 5, none⟩ t1).setCell ⟨b, 6, none⟩ t2) (some b2) 1 t2 L.length (gots (L ++ [p]).tail) ∧
    Below B W ((W.setCell ⟨b, 5, none⟩ t1).setCell ⟨b, 6, none⟩ t2) := by
  have hk := (fr_set W b 5 t1).trans (fr_set (W.setCell ⟨b, 5, none⟩ t1) b 6 t2)
  obtain ⟨u, hu, _⟩ := sents_tail L p
  obtain ⟨u', hu'⟩ := gots_tail L p
  rw [hu] at hs
  rw [hu'] at hg
  refine ⟨?_, ?_, ?_, hk.below h0 (fun k hk hs => by omega)⟩
  · have := (hb.set 5 t1).set 6 t2
    simpa [rCells] using this
  · rw [ht1] at hk ⊢
    exact (hs.tail (x := [u]) rfl).keep hk (fun k hk h => n1 ((Option.some.inj hk).trans h))
  · rw [ht2] at hk ⊢
    exact (hg.tail (x := [u']) rfl).keep hk (fun k hk h => n2 ((Option.some.inj hk).trans h))


end Go.Proofs.Ytpdhjjmhdoghjaa
