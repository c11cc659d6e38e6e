/- The walk over Links of package target, Plain, awake. -/
import Derived.Test.YtobpjejeignacaaMay
namespace Go.Proofs.Ytobpjejeignacaa
open Go.RowKit

/-- What a walk needs of a config's cells, the cells under a name. -/
structure IsCfg (c : Cfg) (cs : Array Value) : Prop where
  eq : cs = cfgCells c
  links : cs[1]? = some (.int .i64 c.links)
  least : cs[2]? = some (.int .i64 c.least)
  rate : cs[3]? = some (.int .i64 c.rate)
  size : (Try.prog.info? 23).map (·.size) = some cs.size

theorem isCfg (c : Cfg) : IsCfg c (cfgCells c) := ⟨rfl, rfl, rfl, rfl, by kernel_rfl⟩

theorem may_cs {c : Cfg} {cs : Array Value} (h : IsCfg c cs) (w : World) (v : Bool) (hv : mayB c = v) : Calls Try.prog 10 #[.agg cs] w fun e w' => e = .returned (.bool v) ∧ w' = w.alloc (.cells cs 23) := by
  subst hv
  have := may_any c w
  rw [h.eq]
  exact this

set_option maxHeartbeats 1000000 in
theorem links_bad (load : Int) (c : Cfg) (cs : Array Value) (hc : IsCfg c cs) (w : World) (h : mayB c = false ∨ load < 0) :
    Calls Try.prog 7 #[.int .i64 load, .agg cs] w fun e w' => e = .returned (.tuple #[.int .i64 0, .int .i64 2400]) ∧ Same w w' := by
  obtain ⟨m, hm⟩ : ∃ m, mayB c = m := ⟨_, rfl⟩
  rw [hm] at h
  have HM := Lib.hid hm; clear hm
  have HG : Hid ((w.alloc (.cells cs 23)).heap[w.heap.size]? = some (.cells cs 23 (0, 0))) := Lib.hid (Blk.new w cs 23)
  go_enter Try.func7, Try.ntmps7
  go_wp2_with (refine wpList_load_row rfl 23 _ rfl _ rfl 23 cs (0, 0) _ HG.out Try.underlying23 rfl hc.size ?_)
  refine (may_cs hc _ m HM.out).mono ?_
  rintro e w1 ⟨rfl, rfl⟩
  clear HM
  have hs : Same w ((w.alloc (.cells cs 23)).alloc (.cells cs 23)) := ((Fr.refl _ _).alloc _).alloc _
  generalize (w.alloc (.cells cs 23)).alloc (.cells cs 23) = W at *
  have HS := Lib.hid hs; clear hs HG
  rcases h with rfl | h
  · go_wp2_with fail
    go_ret2
    exact ⟨rfl, HS.out⟩
  · cases m with
    | false =>
      go_wp2_with fail
      go_ret2
      exact ⟨rfl, HS.out⟩
    | true =>
      go_wp2_with fail
      go_ret2
      exact ⟨rfl, HS.out⟩

theorem may_bounds {c : Cfg} (h : mayB c = true) : 64 ≤ c.rate ∧ c.rate ≤ 4096 ∧ 1 ≤ c.least ∧ c.least ≤ c.links ∧ c.links ≤ 6 := by
  unfold mayB linksB shapeB inB at h
  simp only [Bool.and_eq_true, decide_eq_true_eq] at h
  omega

set_option maxHeartbeats 1000000 in
theorem links_ok (load : Int) (c : Cfg) (cs : Array Value) (hc : IsCfg c cs) (w : World) (h : mayB c = true) (h0 : 0 ≤ load) (h1 : load ≤ 9223372036854775807) :
    Calls Try.prog 7 #[.int .i64 load, .agg cs] w fun e w' => e = .returned (.tuple #[.int .i64 (cnt load c.rate c.least c.links), .int .i64 0]) ∧ Same w w' := by
  obtain ⟨b1, b2, b3, b4, b5⟩ := may_bounds h
  have HM := Lib.hid h; clear h
  have hg := Blk.new w cs 23
  have HG : Hid ((w.alloc (.cells cs 23)).heap[w.heap.size]? = some (.cells cs 23 (0, 0))) := Lib.hid hg
  have HC := Lib.hid (count_any load c.rate c.least c.links)
  have H1 := Lib.hid h1; clear h1
  go_enter Try.func7, Try.ntmps7
  go_wp2_with (refine wpList_load_row rfl 23 _ rfl _ rfl 23 cs (0, 0) _ HG.out Try.underlying23 rfl hc.size ?_)
  refine (may_cs hc _ true HM.out).mono ?_
  rintro e w1 ⟨rfl, rfl⟩
  have hg2 := hg.alloc (.cells cs 23)
  have c1 : ((w.alloc (.cells cs 23)).alloc (.cells cs 23)).cell? ⟨w.heap.size, 1, none⟩ = some (.int .i64 c.links) := (hg2.cell 1).trans hc.links
  have c2 : ((w.alloc (.cells cs 23)).alloc (.cells cs 23)).cell? ⟨w.heap.size, 2, none⟩ = some (.int .i64 c.least) := (hg2.cell 2).trans hc.least
  have c3 : ((w.alloc (.cells cs 23)).alloc (.cells cs 23)).cell? ⟨w.heap.size, 3, none⟩ = some (.int .i64 c.rate) := (hg2.cell 3).trans hc.rate
  have hs : Same w ((w.alloc (.cells cs 23)).alloc (.cells cs 23)) := ((Fr.refl _ _).alloc _).alloc _
  clear HG hg hg2
  generalize (w.alloc (.cells cs 23)).alloc (.cells cs 23) = W at *
  have HS := Lib.hid hs; clear hs
  go_wp2_with (go_at_call 14; refine (HC.out _ h0 H1.out b1 b2 b3 b4 (by omega)).mono ?_; rintro e w2 ⟨rfl, rfl⟩)
  go_ret2
  exact ⟨rfl, HS.out⟩

end Go.Proofs.Ytobpjejeignacaa
