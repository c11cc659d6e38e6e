/- The walks over Plain and awake of chapter 24. -/
import Derived.Test.YtobpjejeignacaaLinks
namespace Go.Proofs.Ytobpjejeignacaa
open Go.RowKit

def byteS : ByteArray := ⟨#[115]⟩
def plainC : Cfg := { ports := 4, links := 3, least := 1, rate := 256, window := 16, high := 800, low := 200, hold := 4, base := 2, cap := 8, restart := 3, tries := 4, short := false, sa := byteS, sb := byteS, ex := byteS, ma := 1, mb := 2 }

/-- The cells of a config, each of one cell. -/
def One (cs : Array Value) : Prop := cs.size = 18 ∧ cs.all (·.oneCell') = true

theorem one_cfg (c : Cfg) : One (cfgCells c) := ⟨rfl, by simp [cfgCells, Value.oneCell']⟩

theorem blk_row {w : World} {b : Nat} {old cs : Array Value} {t : TypeId} (h : Blk w b old t) : Blk (w.setRow b cs) b cs t := setRow_heap w b old cs t (0, 0) h

theorem fr_row {S : Nat → Prop} {a w : World} (h : Fr S a w) {b : Nat} (hb : a.heap.size ≤ b) (cs : Array Value) : Fr S a (w.setRow b cs) :=
  ⟨h.os, h.tape, h.output, by simpa [World.setRow] using h.size, fun k hk hs => (setRow_other w b k cs (by omega)).trans (h.block k hk hs)⟩

set_option maxRecDepth 100000 in
set_option maxHeartbeats 1000000 in
theorem plain_ok (w : World) : Calls Try.prog 13 #[] w fun e w' => e = .returned (.agg (cfgCells plainC)) ∧ Same w w' := by
  go_enter Try.func13, Try.ntmps13
  go_wp2_with (refine wpList_store_row rfl 23 _ _ rfl _ (cfgCells plainC) rfl rfl 23 _ (Blk.new _ _ _) (isCfg plainC).size rfl (one_cfg plainC).2 ?_)
  refine bodyPost_ret (v := .agg (cfgCells plainC)) ?_ rfl ⟨rfl, fr_row ((Fr.refl _ _).alloc _) (Nat.le_refl _) _⟩
  exact results_cell_row (P := Try.prog) Try.results13 _ _ w.heap.size 23 (cfgCells plainC) (0, 0) _ rfl (blk_row (Blk.new _ _ _)) Try.underlying23 rfl (by kernel_rfl)

theorem plain_cs (w : World) : Calls Try.prog 13 #[] w fun e w' => ∃ cs, e = .returned (.agg cs) ∧ IsCfg plainC cs ∧ One cs ∧ Same w w' :=
  (plain_ok w).mono fun _ _ ⟨he, hs⟩ => ⟨_, he, isCfg plainC, one_cfg plainC, hs⟩

def zeroC : Cfg := { ports := 0, links := 0, least := 0, rate := 0, window := 0, high := 0, low := 0, hold := 0, base := 0, cap := 0, restart := 0, tries := 0, short := false, sa := ⟨#[]⟩, sb := ⟨#[]⟩, ex := ⟨#[]⟩, ma := 0, mb := 0 }

theorem may_plain : mayB plainC = true := by decide
theorem may_zero : mayB zeroC = false := by decide

set_option maxHeartbeats 1000000 in
theorem awake_ok (w : World) : Calls Try.prog 12 #[] w fun e w' => e = .returned (.bool true) ∧ Same w w' := by
  go_enter Try.func12, Try.ntmps12
  go_wp2_with fail
  refine (plain_cs _).mono ?_
  rintro e w1 ⟨cs, rfl, hc, hone, hs1⟩
  have HO := Lib.hid hone; clear hone
  have HS := Lib.hid hs1; clear hs1
  go_wp2_with (first | (refine wpList_store_row rfl 23 _ _ rfl _ cs rfl rfl 23 _ (Blk.new _ _ _) hc.size HO.out.1.symm HO.out.2 ?_) | (refine wpList_load_row rfl 23 _ rfl _ rfl 23 cs (0, 0) _ (blk_row (Blk.new _ _ _)) Try.underlying23 rfl hc.size ?_))
  refine (links_ok 257 plainC cs hc _ may_plain (by omega) (by omega)).mono ?_
  rintro e w2 ⟨rfl, hs2⟩
  have hb2 := (blk_row (Blk.new _ _ _)).keep hs2 id
  have hw2 := (fr_row (HS.out.alloc _) HS.out.size cs).trans hs2
  have B2 := Lib.hid hb2; clear hb2
  have S2 := Lib.hid hw2; clear hw2 hs2 HS
  generalize w1.heap.size = g at *
  go_wp2_with (refine wpList_load_row rfl 23 _ rfl _ rfl 23 cs (0, 0) _ B2.out Try.underlying23 rfl hc.size ?_)
  refine (links_ok 9999 plainC cs hc _ may_plain (by omega) (by omega)).mono ?_
  rintro e w3 ⟨rfl, hs3⟩
  have B3 := Lib.hid (B2.out.keep hs3 id)
  have S3 := Lib.hid (S2.out.trans hs3); clear hs3 B2 S2
  go_wp2_with fail
  refine (links_bad 1 zeroC _ (isCfg zeroC) _ (Or.inl may_zero)).mono ?_
  rintro e w4 ⟨rfl, hs4⟩
  have B4 := Lib.hid (B3.out.keep hs4 id)
  have S4 := Lib.hid (S3.out.trans hs4); clear hs4 B3 S3
  go_wp2_with (refine wpList_load_row rfl 23 _ rfl _ rfl 23 cs (0, 0) _ B4.out Try.underlying23 rfl hc.size ?_)
  refine (may_cs hc _ true may_plain).mono ?_
  rintro e w5 ⟨rfl, rfl⟩
  have S5 : Hid (Same w (w4.alloc (.cells cs 23))) := Lib.hid (S4.out.alloc _)
  clear S4 B4
  generalize w4.alloc (.cells cs 23) = w5 at *
  go_wp2_with fail
  refine (may_cs (isCfg zeroC) _ false may_zero).mono ?_
  rintro e w6 ⟨rfl, rfl⟩
  have S6 : Hid (Same w (w5.alloc (.cells (cfgCells zeroC) 23))) := Lib.hid (S5.out.alloc _)
  clear S5
  generalize w5.alloc (.cells (cfgCells zeroC) 23) = w6 at *
  have k1 : cnt 257 plainC.rate plainC.least plainC.links = 2 := by decide
  have k2 : cnt 9999 plainC.rate plainC.least plainC.links = 3 := by decide
  go_wp2_with (go_at_call 9; refine (num_any _ _).mono ?_; rintro e w7 ⟨rfl, rfl⟩)
  go_ret
  exact ⟨rfl, S6.out⟩

end Go.Proofs.Ytobpjejeignacaa
