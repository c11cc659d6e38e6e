/- The walk over a meter's add. -/
import Derived.Test.YtpdhjjmhdoghjaaTurn
import Derived.Deep.DeepCutAuto
namespace Go.Proofs.Ytpdhjjmhdoghjaa
open Go.RowKit

/-- The share of so many bytes, of so much room. -/
def shv (S G : Int) : Int := if 0 < G then min 1000 (1000 * S / G) else 0

theorem shv_facts (S G : Int) (h0 : 0 ≤ S) (h1 : S ≤ 100000000000) (hG : 0 < G) : (1000 * S).tdiv G = 1000 * S / G ∧ 0 ≤ 1000 * S / G ∧ 1000 * S / G ≤ 100000000000000 ∧ shv S G = min 1000 (1000 * S / G) := by
  have e : (1000 * S).tdiv G = 1000 * S / G := Int.tdiv_eq_ediv_of_nonneg (by omega)
  have a : 0 ≤ 1000 * S / G := Int.ediv_nonneg (by omega) (by omega)
  have b : 1000 * S / G ≤ 1000 * S := Int.ediv_le_self _ (by omega)
  exact ⟨e, a, by omega, by unfold shv; rw [if_pos hG]⟩

/-- What the stores of add leave, the share left open. -/
theorem add_end (b r n i : Nat) (way long h l d sh ss sg S G x y : Int) (R : List (Int × Int)) (w W : World)
    (hb : Blk W b (mCells way long h l d r n i ss sg sh) 53) (hr : Blk W r (ringArr R) 51) (hf : Fr (fun k => k = r ∨ k = b) w W) (hbr : r ≠ b) (hR : i < R.length) :
    Blk ((((((W.setCell ⟨b, 7, none⟩ (.int .i64 S)).setCell ⟨b, 8, none⟩ (.int .i64 G)).setCell ⟨r, i * 2, none⟩ (.int .i64 x)).setCell ⟨r, i * 2 + 1, none⟩ (.int .i64 y)).setCell ⟨b, 6, none⟩ (.int .i64 (((i : Int) + 1) % (n : Int)))).setCell ⟨b, 9, none⟩ (.int .i64 0)) b (mCells way long h l d r n ((i + 1) % n) S G 0) 53 ∧
    Blk ((((((W.setCell ⟨b, 7, none⟩ (.int .i64 S)).setCell ⟨b, 8, none⟩ (.int .i64 G)).setCell ⟨r, i * 2, none⟩ (.int .i64 x)).setCell ⟨r, i * 2 + 1, none⟩ (.int .i64 y)).setCell ⟨b, 6, none⟩ (.int .i64 (((i : Int) + 1) % (n : Int)))).setCell ⟨b, 9, none⟩ (.int .i64 0)) r (ringArr (R.set i (x, y))) 51 ∧
    Fr (fun k => k = r ∨ k = b) w ((((((W.setCell ⟨b, 7, none⟩ (.int .i64 S)).setCell ⟨b, 8, none⟩ (.int .i64 G)).setCell ⟨r, i * 2, none⟩ (.int .i64 x)).setCell ⟨r, i * 2 + 1, none⟩ (.int .i64 y)).setCell ⟨b, 6, none⟩ (.int .i64 (((i : Int) + 1) % (n : Int)))).setCell ⟨b, 9, none⟩ (.int .i64 0)) := by
  refine ⟨?_, ?_, ?_⟩
  · have k1 := hb.set 7 (.int .i64 S)
    have k2 := k1.set 8 (.int .i64 G)
    have k3 := k2.setOther (p := ⟨r, i * 2, none⟩) (fun e => hbr e.symm) (.int .i64 x)
    have k4 := k3.setOther (p := ⟨r, i * 2 + 1, none⟩) (fun e => hbr e.symm) (.int .i64 y)
    have k5 := k4.set 6 (.int .i64 (((i : Int) + 1) % (n : Int)))
    have k6 := k5.set 9 (.int .i64 0)
    simpa [mCells] using k6
  · have k1 := hr.setOther (p := ⟨b, 7, none⟩) hbr (.int .i64 S)
    have k2 := k1.setOther (p := ⟨b, 8, none⟩) hbr (.int .i64 G)
    have k3 := k2.set (i * 2) (.int .i64 x)
    have k4 := k3.set (i * 2 + 1) (.int .i64 y)
    have k5 := k4.setOther (p := ⟨b, 6, none⟩) hbr (.int .i64 (((i : Int) + 1) % (n : Int)))
    have k6 := k5.setOther (p := ⟨b, 9, none⟩) hbr (.int .i64 0)
    rw [ringArr_set R i x y hR] at k6
    exact k6
  · exact (((((hf.setCell (Or.inr (Or.inr rfl)) _).setCell (Or.inr (Or.inr rfl)) _).setCell (Or.inr (Or.inl rfl)) _).setCell (Or.inr (Or.inl rfl)) _).setCell (Or.inr (Or.inr rfl)) _).setCell (Or.inr (Or.inr rfl)) _

/-- The heap behind a store, as a function of the heap alone: worlds that part in their draws are told alike by it. -/
def upd (h : Array Obj) (a : Addr) (v : Value) : Array Obj := h.modify a.block fun
  | .cells c elem frozen => .cells (if a.spot.isSome then c else c.setIfInBounds a.off v) elem frozen
  | o => o
theorem heap_set (w : World) (a : Addr) (v : Value) : (w.setCell a v).heap = upd w.heap a v := rfl
theorem heap_drew (w : World) : w.drew.heap = w.heap := rfl
theorem heap_drewN (w : World) (n : Nat) : (w.drewN n).heap = w.heap := rfl
theorem os_set (w : World) (a : Addr) (v : Value) : (w.setCell a v).os = w.os := rfl
theorem os_drew (w : World) : w.drew.os = w.os := rfl
theorem os_drewN (w : World) (n : Nat) : (w.drewN n).os = w.os := rfl
theorem tape_set (w : World) (a : Addr) (v : Value) : (w.setCell a v).tape = w.tape := rfl
theorem tape_drew (w : World) : w.drew.tape = w.tape := rfl
theorem tape_drewN (w : World) (n : Nat) : (w.drewN n).tape = w.tape := rfl
theorem out_set (w : World) (a : Addr) (v : Value) : (w.setCell a v).output = w.output := rfl
theorem out_drew (w : World) : w.drew.output = w.output := rfl
theorem out_drewN (w : World) (n : Nat) : (w.drewN n).output = w.output := rfl

theorem Blk.of {a b : World} {k : Nat} {c : Array Value} {t : TypeId} (h : Blk a k c t) (e : b.heap = a.heap) : Blk b k c t := by
  unfold Blk at h ⊢
  rw [e]
  exact h

theorem add_end2 (b r : Nat) (n at' : Nat) (way long h l d S G s : Int) (R : List (Int × Int)) (w V : World) (hbr : r ≠ b)
    (h1 : Blk V b (mCells way long h l d r n at' S G 0) 53) (h2 : Blk V r (ringArr R) 51) (h3 : Fr (fun k => k = r ∨ k = b) w V) :
    Blk (V.setCell ⟨b, 9, none⟩ (.int .i64 s)) b (mCells way long h l d r n at' S G s) 53 ∧ Blk (V.setCell ⟨b, 9, none⟩ (.int .i64 s)) r (ringArr R) 51 ∧ Fr (fun k => k = r ∨ k = b) w (V.setCell ⟨b, 9, none⟩ (.int .i64 s)) :=
  ⟨by have := h1.set 9 (.int .i64 s); simpa [mCells] using this, h2.setOther (p := ⟨b, 9, none⟩) hbr _, h3.setCell (p := ⟨b, 9, none⟩) (Or.inr (Or.inr rfl)) _⟩

theorem Fr.of {S : Nat → Prop} {w a b : World} (h : Fr S w a) (h1 : b.os = a.os) (h2 : b.tape = a.tape) (h3 : b.output = a.output) (h4 : b.heap = a.heap) : Fr S w b :=
  ⟨h1.trans h.os, h2.trans h.tape, h3.trans h.output, by rw [h4]; exact h.size, fun k hk hs => by rw [h4]; exact h.block k hk hs⟩

set_option maxRecDepth 100000 in
set_option maxHeartbeats 2000000 in
theorem add_good (b r n i : Nat) (way long h l d sh ss sg x y os og : Int) (R : List (Int × Int)) (w : World)
    (hb : Blk w b (mCells way long h l d r n i ss sg sh) 53) (hr : Blk w r (ringArr R) 51) (hbr : r ≠ b) (hi : i < n) (hn : n ≤ 32) (hR : i < R.length)
    (ho1 : (ringArr R)[i * 2]? = some (.int .i64 os)) (ho2 : (ringArr R)[i * 2 + 1]? = some (.int .i64 og))
    (hx : 0 ≤ x ∧ x ≤ 2147483647) (hy : 0 ≤ y ∧ y ≤ 2147483647) (hos : 0 ≤ os ∧ os ≤ 2147483647) (hog : 0 ≤ og ∧ og ≤ 2147483647) (hss : 0 ≤ ss ∧ ss ≤ 90000000000) (hsg : 0 ≤ sg ∧ sg ≤ 90000000000)
    (hS : 0 ≤ ss + (x - os)) (hG : 0 ≤ sg + (y - og)) :
    Calls Try.prog 18 #[.pointer (some ⟨b, 0, none⟩), .agg #[.int .i64 x, .int .i64 y]] w fun e w' => e = .returned (.tuple #[]) ∧
      Blk w' b (mCells way long h l d r n ((i + 1) % n) (ss + (x - os)) (sg + (y - og)) (shv (ss + (x - os)) (sg + (y - og)))) 53 ∧ Blk w' r (ringArr (R.set i (x, y))) 51 ∧ Fr (fun k => k = r ∨ k = b) w w' := by
  have hfw : Fr (fun k => k = r ∨ k = b) w (w.alloc (.cells #[.int .i64 x, .int .i64 y] 51)) := (Fr.refl _ _).alloc _
  have hg := Blk.new w #[.int .i64 x, .int .i64 y] 51
  have hb' := hb.alloc (.cells #[.int .i64 x, .int .i64 y] 51)
  have hr' := hr.alloc (.cells #[.int .i64 x, .int .i64 y] 51)
  have gb : w.heap.size ≠ b := by have := hb.lt; omega
  have gr : w.heap.size ≠ r := by have := hr.lt; omega
  clear hb hr
  go_enter Try.func18, Try.ntmps18
  go_upto_region 1 with fail
  generalize w.alloc (.cells #[.int .i64 x, .int .i64 y] 51) = W at *
  generalize w.heap.size = g at *
  have c5 : W.cell? ⟨b, 5, none⟩ = some (.slice (some ⟨r, 0, none⟩) n n) := hb'.cell 5
  have c6 : W.cell? ⟨b, 6, none⟩ = some (.int .i64 i) := hb'.cell 6
  have c7 : W.cell? ⟨b, 7, none⟩ = some (.int .i64 ss) := hb'.cell 7
  have c8 : W.cell? ⟨b, 8, none⟩ = some (.int .i64 sg) := hb'.cell 8
  have c9 : W.cell? ⟨b, 9, none⟩ = some (.int .i64 sh) := hb'.cell 9
  have g0 : W.cell? ⟨g, 0, none⟩ = some (.int .i64 x) := hg.cell 0
  have g1 : W.cell? ⟨g, 1, none⟩ = some (.int .i64 y) := hg.cell 1
  have r1 : W.cell? ⟨r, i * 2, none⟩ = some (.int .i64 os) := (hr'.cell _).trans ho1
  have r2 : W.cell? ⟨r, i * 2 + 1, none⟩ = some (.int .i64 og) := (hr'.cell _).trans ho2
  have f6 := hb'.frozen 6
  have f7 := hb'.frozen 7
  have f8 := hb'.frozen 8
  have f9 := hb'.frozen 9
  have q1 := hr'.frozen (i * 2)
  have q2 := hr'.frozen (i * 2 + 1)
  have HB := Lib.hid hb'; clear hb'
  have HR := Lib.hid hr'; clear hr'
  have HF := Lib.hid hfw; clear hfw hg
  clear ho1 ho2
  go_quiet (fail)
  go_wp2
  go_region
  go_wp2
  go_region
  go_wp2
  go_region
  have fS := shv_facts (ss + (x - os)) (sg + (y - og))
  by_cases hz : 0 < sg + (y - og)
  · obtain ⟨tq, q0, q3, hsh⟩ := fS hS (by omega) hz
    have hne : ((sg + (y - og)) == 0) = false := by rw [beq_eq_false_iff_ne]; omega
    have HSH := Lib.hid hsh; clear hsh
    generalize 1000 * (ss + (x - os)) / (sg + (y - og)) = Q at *
    have tS : 0 ≤ 1000 * (ss + (x - os)) ∧ 1000 * (ss + (x - os)) ≤ 100000000000000 := by omega
    clear fS
    by_cases hq : Q < 1000
    · go_wp2
      go_region
      go_wp2
      go_end0
      have hE := add_end b r n i way long h l d sh ss sg (ss + (x - os)) (sg + (y - og)) x y R w W HB.out HR.out HF.out hbr hR
      have hE2 := add_end2 b r n ((i + 1) % n) way long h l d (ss + (x - os)) (sg + (y - og)) Q (R.set i (x, y)) w _ hbr hE.1 hE.2.1 hE.2.2
      have hv : shv (ss + (x - os)) (sg + (y - og)) = Q := by rw [HSH.out]; omega
      rw [hv]
      exact ⟨rfl, Blk.of hE2.1 (by simp only [heap_set, heap_drew, heap_drewN]), Blk.of hE2.2.1 (by simp only [heap_set, heap_drew, heap_drewN]), Fr.of hE2.2.2 (by simp only [os_set, os_drew, os_drewN]) (by simp only [tape_set, tape_drew, tape_drewN]) (by simp only [out_set, out_drew, out_drewN]) (by simp only [heap_set, heap_drew, heap_drewN])⟩
    · go_wp2
      go_region
      go_wp2
      go_end0
      have hE := add_end b r n i way long h l d sh ss sg (ss + (x - os)) (sg + (y - og)) x y R w W HB.out HR.out HF.out hbr hR
      have hE2 := add_end2 b r n ((i + 1) % n) way long h l d (ss + (x - os)) (sg + (y - og)) 1000 (R.set i (x, y)) w _ hbr hE.1 hE.2.1 hE.2.2
      have hv : shv (ss + (x - os)) (sg + (y - og)) = 1000 := by rw [HSH.out]; omega
      rw [hv]
      exact ⟨rfl, Blk.of hE2.1 (by simp only [heap_set, heap_drew, heap_drewN]), Blk.of hE2.2.1 (by simp only [heap_set, heap_drew, heap_drewN]), Fr.of hE2.2.2 (by simp only [os_set, os_drew, os_drewN]) (by simp only [tape_set, tape_drew, tape_drewN]) (by simp only [out_set, out_drew, out_drewN]) (by simp only [heap_set, heap_drew, heap_drewN])⟩
  · have hsh : shv (ss + (x - os)) (sg + (y - og)) = 0 := by unfold shv; rw [if_neg hz]
    have HSH := Lib.hid hsh; clear hsh fS
    go_wp2
    go_end0
    have hE := add_end b r n i way long h l d sh ss sg (ss + (x - os)) (sg + (y - og)) x y R w W HB.out HR.out HF.out hbr hR
    rw [HSH.out]
    exact ⟨rfl, Blk.of hE.1 (by simp only [heap_set, heap_drew, heap_drewN]), Blk.of hE.2.1 (by simp only [heap_set, heap_drew, heap_drewN]), Fr.of hE.2.2 (by simp only [os_set, os_drew, os_drewN]) (by simp only [tape_set, tape_drew, tape_drewN]) (by simp only [out_set, out_drew, out_drewN]) (by simp only [heap_set, heap_drew, heap_drewN])⟩

end Go.Proofs.Ytpdhjjmhdoghjaa
