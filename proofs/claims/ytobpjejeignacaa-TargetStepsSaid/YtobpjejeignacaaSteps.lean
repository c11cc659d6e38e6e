/- The walk over TargetSteps: it returns true. -/
import Derived.Test.YtobpjejeignacaaAwake
namespace Go.Proofs.Ytobpjejeignacaa
open Go.RowKit

theorem umod3 (g : Int) : 0 ≤ wrap64 ((IntKind.u64.wrap g).tmod 3) ∧ wrap64 ((IntKind.u64.wrap g).tmod 3) ≤ 2 := by
  have h0 : 0 ≤ IntKind.u64.wrap g := by
    simp only [IntKind.wrap, IntKind.bits, IntKind.signed]
    simp
    omega
  rw [Int.tmod_eq_emod_of_nonneg h0, IntWalk.wrap64_in _ ⟨by omega, by omega⟩]
  omega

theorem cnt_low (m d : Int) (h1 : 1 ≤ m) (h2 : m ≤ 3) (h3 : 0 ≤ d) (h4 : d ≤ 127) : cnt (m * 256 - d) plainC.rate plainC.least plainC.links = m := by
  show cnt (m * 256 - d) 256 1 3 = m
  unfold cnt ceilI
  omega

theorem cnt_high (m d : Int) (h1 : 1 ≤ m) (h2 : m ≤ 3) (h3 : 0 ≤ d) (h4 : d ≤ 127) : cnt (m * 256 + 1 + d) plainC.rate plainC.least plainC.links = min 3 (m + 1) := by
  show cnt (m * 256 + 1 + d) 256 1 3 = min 3 (m + 1)
  unfold cnt ceilI
  omega

set_option maxHeartbeats 1000000 in
theorem steps_walk (k by' : Int) (_ : (Lit.int .i64 k).wf = true) (_ : (Lit.int .i64 by').wf = true) (w : World) :
    Calls Try.prog 6 #[.int .i64 k, .int .i64 by'] w fun e w' => e = .returned (.bool true) ∧ Below w.heap.size w w' := by
  go_enter Try.func6, Try.ntmps6
  go_wp2_with fail
  refine (awake_ok _).mono ?_
  rintro e w0 ⟨rfl, hs0⟩
  have HS0 := Lib.hid hs0; clear hs0
  go_wp2_with fail
  refine (plain_cs _).mono ?_
  rintro e w1 ⟨cs, rfl, hc, hone, hs1⟩
  have HO := Lib.hid hone; clear hone
  have HS := Lib.hid (HS0.out.trans hs1); clear hs1 HS0
  obtain ⟨hM0, hM1⟩ := umod3 k
  have hA := i64_and127 by'
  go_upto_region 4 with (refine wpList_store_row rfl 23 _ _ rfl _ cs rfl rfl 23 _ (Blk.new _ _ _) hc.size HO.out.1.symm HO.out.2 ?_)
  have hb2 := blk_row (cs := cs) (Blk.new w1 #[.int .i64 0, .int .i64 0, .int .i64 0, .int .i64 0, .int .i64 0, .int .i64 0, .int .i64 0, .int .i64 0, .int .i64 0, .int .i64 0, .int .i64 0, .int .i64 0, .bool false, .string ⟨#[]⟩, .string ⟨#[]⟩, .string ⟨#[]⟩, .int .i64 0, .int .i64 0] 23)
  have hw2 := fr_row (HS.out.alloc (.cells #[.int .i64 0, .int .i64 0, .int .i64 0, .int .i64 0, .int .i64 0, .int .i64 0, .int .i64 0, .int .i64 0, .int .i64 0, .int .i64 0, .int .i64 0, .int .i64 0, .bool false, .string ⟨#[]⟩, .string ⟨#[]⟩, .string ⟨#[]⟩, .int .i64 0, .int .i64 0] 23)) HS.out.size cs
  generalize World.setRow _ _ cs = w2 at *
  generalize w1.heap.size = g at *
  have c3 : w2.cell? ⟨g, 3, none⟩ = some (.int .i64 256) := (hb2.cell 3).trans hc.rate
  have B2 := Lib.hid hb2; clear hb2
  have S2 := Lib.hid hw2; clear hw2 HS
  generalize hM : wrap64 ((IntKind.u64.wrap k).tmod 3) = M at *
  have hd0 : 0 ≤ by' % 128 := by omega
  have hd1 : by' % 128 ≤ 127 := by omega
  generalize by' % 128 = d at *
  go_wp2_with (refine wpList_load_row rfl 23 _ rfl _ rfl 23 cs (0, 0) _ B2.out Try.underlying23 rfl hc.size ?_)
  have k1 := cnt_low (1 + M) d (by omega) (by omega) hd0 hd1
  have k2 := cnt_high (1 + M) d (by omega) (by omega) hd0 hd1
  refine (links_ok ((1 + M) * 256 - d) plainC cs hc _ may_plain (by omega) (by omega)).mono ?_
  rintro e w3 ⟨rfl, hs3⟩
  rw [k1]
  have K2 := Lib.hid k2; clear k1 k2
  have c3' : w3.cell? ⟨g, 3, none⟩ = some (.int .i64 256) := ((B2.out.keep hs3 id).cell 3).trans hc.rate
  have B3 := Lib.hid (B2.out.keep hs3 id)
  have S3 := Lib.hid (S2.out.trans hs3); clear hs3 B2 S2 c3 hM
  go_wp2_with (refine wpList_load_row rfl 23 _ rfl _ rfl 23 cs (0, 0) _ B3.out Try.underlying23 rfl hc.size ?_)
  refine (links_ok ((1 + M) * 256 + 1 + d) plainC cs hc _ may_plain (by omega) (by omega)).mono ?_
  rintro e w4 ⟨rfl, hs4⟩
  rw [K2.out]
  have B4 := Lib.hid (B3.out.keep hs4 id)
  have S4 := Lib.hid (S3.out.trans hs4); clear hs4 B3 S3 c3'
  go_wp2_with (refine wpList_load_row rfl 23 _ rfl _ rfl 23 cs (0, 0) _ B4.out Try.underlying23 rfl hc.size ?_)
  refine (links_bad (-1 - d) plainC cs hc _ (Or.inr (by omega))).mono ?_
  rintro e w5 ⟨rfl, hs5⟩
  have c1 : w5.cell? ⟨g, 1, none⟩ = some (.int .i64 3) := ((B4.out.keep hs5 id).cell 1).trans hc.links
  have S5 := Lib.hid (S4.out.trans hs5); clear hs5 B4 S4 K2
  have hM : M = 0 ∨ M = 1 ∨ M = 2 := by omega
  clear hM0 hM1
  rcases hM with rfl | rfl | rfl
  all_goals
    go_wp2_with (go_at_call 9; refine (num_any _ _).mono ?_; rintro e w7 ⟨rfl, rfl⟩)
    go_ret
    exact ⟨rfl, Same.below S5.out⟩

end Go.Proofs.Ytobpjejeignacaa
