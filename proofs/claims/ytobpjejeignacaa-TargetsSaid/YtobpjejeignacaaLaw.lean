/- The walk over Targets: it returns true. -/
import Derived.Test.YtobpjejeignacaaRMay
import Derived.Test.YtobpjejeignacaaAwake
import Derived.Deep.QuietTactic
import Derived.OpenShut
namespace Go.Proofs.Ytobpjejeignacaa
open Go.RowKit

theorem rmay_cs {c : Cfg} {cs : Array Value} (h : IsCfg c cs) (w : World) (v : Bool) (hv : mayB c = v) : Calls Try.prog 11 #[.agg cs] w fun e w' => e = .returned (.bool v) ∧ w' = w.alloc (.cells cs 23) := by
  subst hv
  have := rmay_any c w
  rw [rmay_eq] at this
  rw [h.eq]
  exact this

set_option maxHeartbeats 1000000 in
theorem rlinks_bad (load : Int) (c : Cfg) (cs : Array Value) (hc : IsCfg c cs) (w : World) (h : mayB c = false ∨ load < 0) :
    Calls Try.prog 8 #[.int .i64 load, .agg cs] w fun e w' => e = .returned (.tuple #[.int .i64 0, .int .i64 2400]) ∧ Same w w' := by
  obtain ⟨m, hm⟩ : ∃ m, mayB c = m := ⟨_, rfl⟩
  rw [hm] at h
  have HM := Lib.hid hm; clear hm
  have HG : Hid ((w.alloc (.cells cs 23)).heap[w.heap.size]? = some (.cells cs 23 (0, 0))) := Lib.hid (Blk.new w cs 23)
  go_enter Try.func8, Try.ntmps8
  go_wp2_with (refine wpList_load_row rfl 23 _ rfl _ rfl 23 cs (0, 0) _ HG.out Try.underlying23 rfl hc.size ?_)
  refine (rmay_cs hc _ m HM.out).mono ?_
  rintro e w1 ⟨rfl, rfl⟩
  clear HM
  have hs : Same w ((w.alloc (.cells cs 23)).alloc (.cells cs 23)) := ((Fr.refl _ _).alloc _).alloc _
  generalize (w.alloc (.cells cs 23)).alloc (.cells cs 23) = W at *
  have HS := Lib.hid hs; clear hs HG
  rcases h with rfl | h
  · go_wp2_with fail
    go_ret2
    exact ⟨rfl, HS.out⟩
  · cases m with
    | false =>
      go_wp2_with fail
      go_ret2
      exact ⟨rfl, HS.out⟩
    | true =>
      go_wp2_with fail
      go_ret2
      exact ⟨rfl, HS.out⟩

set_option maxHeartbeats 1000000 in
theorem rlinks_ok (load : Int) (c : Cfg) (cs : Array Value) (hc : IsCfg c cs) (w : World) (h : mayB c = true) (h0 : 0 ≤ load) (h1 : load ≤ 9223372036854775807) :
    Calls Try.prog 8 #[.int .i64 load, .agg cs] w fun e w' => e = .returned (.tuple #[.int .i64 (cnt load c.rate c.least c.links), .int .i64 0]) ∧ Same w w' := by
  obtain ⟨b1, b2, b3, b4, b5⟩ := may_bounds h
  have HM := Lib.hid h; clear h
  have hg := Blk.new w cs 23
  have HG : Hid ((w.alloc (.cells cs 23)).heap[w.heap.size]? = some (.cells cs 23 (0, 0))) := Lib.hid hg
  have HC := Lib.hid (target_any load c.rate c.least c.links)
  have H1 := Lib.hid h1; clear h1
  go_enter Try.func8, Try.ntmps8
  go_wp2_with (refine wpList_load_row rfl 23 _ rfl _ rfl 23 cs (0, 0) _ HG.out Try.underlying23 rfl hc.size ?_)
  refine (rmay_cs hc _ true HM.out).mono ?_
  rintro e w1 ⟨rfl, rfl⟩
  have hg2 := hg.alloc (.cells cs 23)
  have c1 : ((w.alloc (.cells cs 23)).alloc (.cells cs 23)).cell? ⟨w.heap.size, 1, none⟩ = some (.int .i64 c.links) := (hg2.cell 1).trans hc.links
  have c2 : ((w.alloc (.cells cs 23)).alloc (.cells cs 23)).cell? ⟨w.heap.size, 2, none⟩ = some (.int .i64 c.least) := (hg2.cell 2).trans hc.least
  have c3 : ((w.alloc (.cells cs 23)).alloc (.cells cs 23)).cell? ⟨w.heap.size, 3, none⟩ = some (.int .i64 c.rate) := (hg2.cell 3).trans hc.rate
  have hs : Same w ((w.alloc (.cells cs 23)).alloc (.cells cs 23)) := ((Fr.refl _ _).alloc _).alloc _
  clear HG hg hg2
  generalize (w.alloc (.cells cs 23)).alloc (.cells cs 23) = W at *
  have HS := Lib.hid hs; clear hs
  go_wp2_with (go_at_call 15; refine (HC.out _ h0 H1.out b1 b2 b3 b4 (by omega)).mono ?_; rintro e w2 ⟨rfl, rfl⟩)
  go_ret2
  exact ⟨rfl, HS.out⟩

/-- The class of worlds that the last statement goes through: the config's box stands, nothing older has turned. -/
def Cls (w : World) (g : Nat) (cs : Array Value) (w' : World) : Prop := Blk w' g cs 23 ∧ Same w w'

theorem load_row (g : Nat) (cs : Array Value) (hs : (Try.prog.info? 23).map (·.size) = some cs.size) (w : World) (h : w.heap[g]? = some (.cells cs 23 (0, 0))) :
    (Instr.loadAt 23 (.pointer (some ⟨g, 0, none⟩))).run Try.prog w = .ok (.agg cs) w := by
  simp only [Instr.loadAt, Instr.sureAddr, Sem.run_bind, Sem.run_pure, Result.andThen_ok, run_loadVar_row (P := Try.prog) w g 23 23 cs (0, 0) _ h Try.underlying23 rfl hs]

theorem wpQuiet_load_row {ops : Array Oper} {C : World → Prop} {Q : Act → Prop} {o : Oper} {rest : List Oper} {a : Act} (hw : Region.wanted o (yielded ops a.tmps) = true) (x : Operand) (ho : o.op = .load 23 x)
    (g : Nat) (hx : a.eval x = .pointer (some ⟨g, 0, none⟩)) (cs : Array Value) (hs : (Try.prog.info? 23).map (·.size) = some cs.size) (hC : ∀ w, C w → w.heap[g]? = some (.cells cs 23 (0, 0)))
    (h : wpQuiet Try.prog ops C Q rest (a.put o.dst (.agg cs))) : wpQuiet Try.prog ops C Q (o :: rest) a := by
  refine wpQuiet_step fun K hK => ?_
  rw [if_pos hw]
  refine ⟨_, fun w hw' => ?_, hK _ h⟩
  unfold Oper.quietAt execOp
  simp only [ho, hx, load_row g cs hs w (hC w hw'), Sem.run_bind, Result.andThen_ok, Sem.run_pure]
  exact ⟨rfl, rfl⟩

set_option maxRecDepth 100000 in
set_option maxHeartbeats 2000000 in
theorem targets_any (x : Int) (c : Cfg) (cs : Array Value) (hc : IsCfg c cs) (w : World) (v : Bool) (hv : mayB c = v) (r : Int) (k : Int)
    (hl : ∀ w, Calls Try.prog 7 #[.int .i64 x, .agg cs] w fun e w' => e = .returned (.tuple #[.int .i64 r, .int .i64 k]) ∧ Same w w')
    (hr : ∀ w, Calls Try.prog 8 #[.int .i64 x, .agg cs] w fun e w' => e = .returned (.tuple #[.int .i64 r, .int .i64 k]) ∧ Same w w') :
    Calls Try.prog 3 #[.int .i64 x, .agg cs] w fun e w' => e = .returned (.bool true) ∧ Below w.heap.size w w' := by
  have hb := Blk.new w cs 23
  have HM := Lib.hid hv; clear hv
  have HL := Lib.hid hl; clear hl
  have HR := Lib.hid hr; clear hr
  have hs := (Fr.refl (fun _ => False) w).alloc (.cells cs 23)
  go_enter Try.func3, Try.ntmps3
  go_upto_region 1 with fail
  generalize w.alloc (.cells cs 23) = w1 at *
  generalize hg : w.heap.size = g at *
  have B1 := Lib.hid hb; clear hb
  have S1 := Lib.hid hs; clear hs
  have HG := Lib.hid hg; clear hg
  go_wp2_with (refine wpList_load_row rfl 23 _ rfl _ rfl 23 cs (0, 0) _ B1.out Try.underlying23 rfl hc.size ?_)
  refine (HL.out _).mono ?_
  rintro e w2 ⟨rfl, hs2⟩
  have B2 := Lib.hid (B1.out.keep hs2 id)
  have S2 := Lib.hid (S1.out.trans hs2); clear hs2 B1 S1
  go_wp2_with (refine wpList_load_row rfl 23 _ rfl _ rfl 23 cs (0, 0) _ B2.out Try.underlying23 rfl hc.size ?_)
  refine (HR.out _).mono ?_
  rintro e w3 ⟨rfl, hs3⟩
  have B3 := Lib.hid (B2.out.keep hs3 id)
  have S3 := Lib.hid (S2.out.trans hs3); clear hs3 B2 S2 HL HR
  go_wp2_with fail
  have hC : Cls w3 g cs { w3 with drawn := w3.drawn + 1 } := ⟨B3.out, (Fr.refl _ _).drew⟩
  refine wp_region_quiet (C := Cls w3 g cs) (by kernel_rfl) (by kernel_rfl) hC ?_
  refine wpQuiet_step (fun K hK => ?_)
  go_simp
  refine ⟨_, fun _ _ => rfl, hK _ ?_⟩
  clear hK K
  refine wpQuiet_step (fun K hK => ?_)
  go_simp
  refine ⟨_, fun _ _ => rfl, hK _ ?_⟩
  clear hK K
  refine wpQuiet_step (fun K hK => ?_)
  go_simp
  refine ⟨_, fun _ _ => rfl, hK _ ?_⟩
  clear hK K
  refine wpQuiet_step (fun K hK => ?_)
  go_simp
  refine ⟨_, fun _ _ => rfl, hK _ ?_⟩
  clear hK K
  refine wpQuiet_step (fun K hK => ?_)
  go_simp
  refine ⟨_, fun _ _ => rfl, hK _ ?_⟩
  clear hK K
  refine wpQuiet_step (fun K hK => ?_)
  go_simp
  refine ⟨_, fun w hw => (num_any _ _).mono fun e w' ⟨he, h⟩ => ⟨he, h ▸ hw⟩, hK _ ?_⟩
  clear hK K
  refine wpQuiet_step (fun K hK => ?_)
  go_simp
  refine ⟨_, fun _ _ => rfl, hK _ ?_⟩
  clear hK K
  refine wpQuiet_step (fun K hK => ?_)
  go_simp
  refine ⟨_, fun _ _ => rfl, hK _ ?_⟩
  clear hK K
  refine wpQuiet_step (fun K hK => ?_)
  go_simp
  refine ⟨_, fun _ _ => rfl, hK _ ?_⟩
  clear hK K
  refine wpQuiet_step (fun K hK => ?_)
  go_simp
  refine ⟨_, fun _ _ => rfl, hK _ ?_⟩
  clear hK K
  refine wpQuiet_load_row rfl _ rfl g rfl cs hc.size (fun _ h => h.1) ?_
  refine wpQuiet_step (fun K hK => ?_)
  go_simp
  refine ⟨_, fun w hw => (may_cs hc w v HM.out).mono fun e w' ⟨he, h⟩ => ⟨he, h ▸ ⟨hw.1.alloc _, hw.2.alloc _⟩⟩, hK _ ?_⟩
  clear hK K
  refine wpQuiet_load_row rfl _ rfl g rfl cs hc.size (fun _ h => h.1) ?_
  refine wpQuiet_step (fun K hK => ?_)
  go_simp
  refine ⟨_, fun w hw => (rmay_cs hc w v HM.out).mono fun e w' ⟨he, h⟩ => ⟨he, h ▸ ⟨hw.1.alloc _, hw.2.alloc _⟩⟩, hK _ ?_⟩
  clear hK K
  refine wpQuiet_step (fun K hK => ?_)
  go_simp
  refine ⟨_, fun _ _ => rfl, hK _ ?_⟩
  clear hK K
  refine wpQuiet_step (fun K hK => ?_)
  go_simp
  refine ⟨_, fun _ _ => rfl, hK _ ?_⟩
  clear hK K
  refine wpQuiet_step (fun K hK => ?_)
  go_simp
  refine ⟨_, fun _ _ => rfl, hK _ ?_⟩
  clear hK K
  refine wpQuiet_step (fun K hK => ?_)
  go_simp
  refine ⟨_, fun w hw => (awake_ok w).mono fun e w' ⟨he, hs⟩ => ⟨he, hw.1.keep hs id, hw.2.trans hs⟩, hK _ ?_⟩
  clear hK K
  refine wpQuiet_step (fun K hK => ?_)
  go_simp
  refine ⟨_, fun _ _ => rfl, hK _ ?_⟩
  clear hK K
  refine wpQuiet_step (fun K hK => ?_)
  go_simp
  refine ⟨_, fun _ _ => rfl, hK _ ?_⟩
  clear hK K
  refine wpQuiet_nil ?_
  intro w' hw'
  have HC := Lib.hid hw'; clear hw'
  go_wp2_with fail
  go_ret
  exact ⟨rfl, HG.out ▸ Same.below (S3.out.trans HC.out.2)⟩

theorem targets_walk (x : Int) (hx : (Lit.int .i64 x).wf = true) (c : Cfg) (cs : Array Value) (hc : IsCfg c cs) (w : World) :
    Calls Try.prog 3 #[.int .i64 x, .agg cs] w fun e w' => e = .returned (.bool true) ∧ Below w.heap.size w w' := by
  by_cases h : mayB c = false ∨ x < 0
  · obtain ⟨v, hv⟩ : ∃ v, mayB c = v := ⟨_, rfl⟩
    exact targets_any x c cs hc w v hv 0 2400 (fun w => links_bad x c cs hc w h) (fun w => rlinks_bad x c cs hc w h)
  · have h1 : mayB c = true := by
      cases hm : mayB c with
      | false => exact absurd (Or.inl hm) h
      | true => rfl
    have h2 : 0 ≤ x := by
      by_cases hx : 0 ≤ x
      · exact hx
      · exact absurd (Or.inr (by omega)) h
    have h3 : x ≤ 9223372036854775807 := (bounds_i64 hx).2
    exact targets_any x c cs hc w true h1 (cnt x c.rate c.least c.links) 0 (fun w => links_ok x c cs hc w h1 h2 h3) (fun w => rlinks_ok x c cs hc w h1 h2 h3)

end Go.Proofs.Ytobpjejeignacaa
