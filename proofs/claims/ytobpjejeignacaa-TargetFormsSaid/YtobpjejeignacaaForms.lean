/- The walk over TargetForms: it returns true. -/
import Derived.Test.YtobpjejeignacaaAwake
import Derived.Deep.CutBlock
namespace Go.Proofs.Ytobpjejeignacaa
open Go.RowKit

theorem and_mask (n m : Int) (k : Nat) (hk : k ≤ 62) (hm : (BitVec.ofInt 64 m).toNat = 2 ^ k - 1) : bits .and .i64 n m = n % ((2 ^ k : Nat) : Int) := by
  have key : (BitVec.ofInt 64 n &&& BitVec.ofInt 64 m).toNat = (n % ((2 ^ 64 : Nat) : Int)).toNat % 2 ^ k := by
    rw [BitVec.toNat_and, BitVec.toNat_ofInt, hm, Nat.and_two_pow_sub_one_eq_mod]
  show IntKind.i64.wrap ((BitVec.ofInt 64 n &&& BitVec.ofInt 64 m).toNat : Nat) = _
  rw [key, IntKind.wrap_i64]
  have hp : (2 : Nat) ^ k ≤ 2 ^ 62 := Nat.pow_le_pow_right (by omega) hk
  have hpos : 0 < (2 : Nat) ^ k := Nat.pos_of_ne_zero (by simp)
  have hd : (2 : Nat) ^ k ∣ 2 ^ 64 := Nat.pow_dvd_pow 2 (by omega)
  have e1 : (((n % ((2 ^ 64 : Nat) : Int)).toNat % 2 ^ k : Nat) : Int) = n % ((2 ^ k : Nat) : Int) := by
    rw [Int.natCast_emod, Int.toNat_of_nonneg (Int.emod_nonneg _ (by decide))]
    exact Int.emod_emod_of_dvd n (Int.natCast_dvd_natCast.2 hd)
  have hlt : (n % ((2 ^ 64 : Nat) : Int)).toNat % 2 ^ k < 2 ^ k := Nat.mod_lt _ hpos
  rw [e1]
  have h1 : 0 ≤ n % ((2 ^ k : Nat) : Int) := Int.emod_nonneg _ (by omega)
  have h2 : n % ((2 ^ k : Nat) : Int) < ((2 ^ k : Nat) : Int) := Int.emod_lt_of_pos _ (by omega)
  have h3 : ((2 ^ k : Nat) : Int) ≤ ((2 ^ 62 : Nat) : Int) := Int.ofNat_le.2 hp
  have h4 : ((2 ^ 62 : Nat) : Int) = 4611686018427387904 := by decide
  omega

@[go_sem] theorem and63 (n : Int) : bits .and .i64 n 63 = n % 64 := and_mask n 63 6 (by decide) (by decide)

/-- A whole row is loaded by an operation that is guarded, and wanted. -/
theorem wpList_load_row_w {P : Program} {ops : Array Oper} {rest : List Oper} {o : Oper} {a : Act} {w : World} {Q : Exit → Act → World → Prop} (hw : Region.wanted o (yielded ops a.tmps) = true) (ty : TypeId) (x : Operand) (ho : o.op = .load ty x)
    (g : Nat) (hx : a.eval x = .pointer (some ⟨g, 0, none⟩)) (t : TypeId) (cs : Array Value) (fr : Nat × Nat) (d : TypeDesc) (hg : w.heap[g]? = some (.cells cs t fr))
    (hu : P.underlying ty = some d) (hd : (match d with | .struct _ | .array _ _ => true | _ => false) = true) (hi : (P.info? ty).map (·.size) = some cs.size)
    (h : wpList P ops Q rest (a.put o.dst (.agg cs)) w) : wpList P ops Q (o :: rest) a w :=
  wpList_step fun K hK => by rw [if_pos hw]; exact wp_load_row ty x ho g hx t cs fr d hg hu hd hi (hK _ _ h)

theorem umod20 (g : Int) : 0 ≤ (IntKind.u64.wrap g).tmod 20 ∧ (IntKind.u64.wrap g).tmod 20 ≤ 19 := by
  have h0 : 0 ≤ IntKind.u64.wrap g := by
    simp only [IntKind.wrap, IntKind.bits, IntKind.signed]
    simp
    omega
  rw [Int.tmod_eq_emod_of_nonneg h0]
  omega

theorem forms_end {cs : Array Value} (hc : IsCfg plainC cs) {w w2 : World} {g : Nat} (hb : Blk w2 g cs 23) (hs : Same w w2) (i : Nat) (v : Value) (c' : Cfg) (he : (cfgCells plainC).setIfInBounds i v = cfgCells c') (hm : mayB c' = false) (hg : w.heap.size ≤ g) :
    ∃ c' cs', IsCfg c' cs' ∧ mayB c' = false ∧ Blk (w2.setCell ⟨g, i, none⟩ v) g cs' 23 ∧ Same w (w2.setCell ⟨g, i, none⟩ v) := by
  refine ⟨c', cfgCells c', isCfg c', hm, ?_, hs.setCell (Or.inl hg) v⟩
  have := hb.set i v
  rw [hc.eq, he] at this
  exact this

theorem forms_bad0 (d : Int) (_h : 0 ≤ d) : mayB { plainC with ports := 8 + (1 + d) } = false := by
  rw [Bool.eq_false_iff]
  intro hh
  simp only [mayB, linksB, metersB, timersB, magicsB, shapeB, meterB, secB, inB, Bool.and_eq_true, decide_eq_true_eq, bne_iff_ne] at hh
  have _h0 : ByteArray.size ⟨#[]⟩ = 0 := rfl
  simp only [plainC] at hh
  omega

theorem forms_bad1 (d : Int) (_h : 0 ≤ d) : mayB { plainC with ports := 1 - (1 + d) } = false := by
  rw [Bool.eq_false_iff]
  intro hh
  simp only [mayB, linksB, metersB, timersB, magicsB, shapeB, meterB, secB, inB, Bool.and_eq_true, decide_eq_true_eq, bne_iff_ne] at hh
  have _h0 : ByteArray.size ⟨#[]⟩ = 0 := rfl
  simp only [plainC] at hh
  omega

theorem forms_bad2 (d : Int) (_h : 0 ≤ d) : mayB { plainC with links := 4 + (1 + d) } = false := by
  rw [Bool.eq_false_iff]
  intro hh
  simp only [mayB, linksB, metersB, timersB, magicsB, shapeB, meterB, secB, inB, Bool.and_eq_true, decide_eq_true_eq, bne_iff_ne] at hh
  have _h0 : ByteArray.size ⟨#[]⟩ = 0 := rfl
  simp only [plainC] at hh
  omega

theorem forms_bad3 (d : Int) (_h : 0 ≤ d) : mayB { plainC with least := 3 + (1 + d) } = false := by
  rw [Bool.eq_false_iff]
  intro hh
  simp only [mayB, linksB, metersB, timersB, magicsB, shapeB, meterB, secB, inB, Bool.and_eq_true, decide_eq_true_eq, bne_iff_ne] at hh
  have _h0 : ByteArray.size ⟨#[]⟩ = 0 := rfl
  simp only [plainC] at hh
  omega

theorem forms_bad4 (d : Int) (_h : 0 ≤ d) : mayB { plainC with least := 1 - (1 + d) } = false := by
  rw [Bool.eq_false_iff]
  intro hh
  simp only [mayB, linksB, metersB, timersB, magicsB, shapeB, meterB, secB, inB, Bool.and_eq_true, decide_eq_true_eq, bne_iff_ne] at hh
  have _h0 : ByteArray.size ⟨#[]⟩ = 0 := rfl
  simp only [plainC] at hh
  omega

theorem forms_bad5 (d : Int) (_h : 0 ≤ d) : mayB { plainC with rate := 64 - (1 + d) } = false := by
  rw [Bool.eq_false_iff]
  intro hh
  simp only [mayB, linksB, metersB, timersB, magicsB, shapeB, meterB, secB, inB, Bool.and_eq_true, decide_eq_true_eq, bne_iff_ne] at hh
  have _h0 : ByteArray.size ⟨#[]⟩ = 0 := rfl
  simp only [plainC] at hh
  omega

theorem forms_bad6 (d : Int) (_h : 0 ≤ d) : mayB { plainC with rate := 4096 + (1 + d) } = false := by
  rw [Bool.eq_false_iff]
  intro hh
  simp only [mayB, linksB, metersB, timersB, magicsB, shapeB, meterB, secB, inB, Bool.and_eq_true, decide_eq_true_eq, bne_iff_ne] at hh
  have _h0 : ByteArray.size ⟨#[]⟩ = 0 := rfl
  simp only [plainC] at hh
  omega

theorem forms_bad7 (d : Int) (_h : 0 ≤ d) : mayB { plainC with window := 64 + (1 + d) } = false := by
  rw [Bool.eq_false_iff]
  intro hh
  simp only [mayB, linksB, metersB, timersB, magicsB, shapeB, meterB, secB, inB, Bool.and_eq_true, decide_eq_true_eq, bne_iff_ne] at hh
  have _h0 : ByteArray.size ⟨#[]⟩ = 0 := rfl
  simp only [plainC] at hh
  omega

theorem forms_bad8 (d : Int) (_h : 0 ≤ d) : mayB { plainC with high := 1000 + (1 + d) } = false := by
  rw [Bool.eq_false_iff]
  intro hh
  simp only [mayB, linksB, metersB, timersB, magicsB, shapeB, meterB, secB, inB, Bool.and_eq_true, decide_eq_true_eq, bne_iff_ne] at hh
  have _h0 : ByteArray.size ⟨#[]⟩ = 0 := rfl
  simp only [plainC] at hh
  omega

theorem forms_bad9 (d : Int) (_h : 0 ≤ d) : mayB { plainC with low := 800 - 1 + (1 + d) } = false := by
  rw [Bool.eq_false_iff]
  intro hh
  simp only [mayB, linksB, metersB, timersB, magicsB, shapeB, meterB, secB, inB, Bool.and_eq_true, decide_eq_true_eq, bne_iff_ne] at hh
  have _h0 : ByteArray.size ⟨#[]⟩ = 0 := rfl
  simp only [plainC] at hh
  omega

theorem forms_bad10 (d : Int) (_h : 0 ≤ d) : mayB { plainC with hold := 64 + (1 + d) } = false := by
  rw [Bool.eq_false_iff]
  intro hh
  simp only [mayB, linksB, metersB, timersB, magicsB, shapeB, meterB, secB, inB, Bool.and_eq_true, decide_eq_true_eq, bne_iff_ne] at hh
  have _h0 : ByteArray.size ⟨#[]⟩ = 0 := rfl
  simp only [plainC] at hh
  omega

theorem forms_bad11 (d : Int) (_h : 0 ≤ d) : mayB { plainC with base := 8 + (1 + d) } = false := by
  rw [Bool.eq_false_iff]
  intro hh
  simp only [mayB, linksB, metersB, timersB, magicsB, shapeB, meterB, secB, inB, Bool.and_eq_true, decide_eq_true_eq, bne_iff_ne] at hh
  have _h0 : ByteArray.size ⟨#[]⟩ = 0 := rfl
  simp only [plainC] at hh
  omega

theorem forms_bad12 (d : Int) (_h : 0 ≤ d) : mayB { plainC with cap := 64 + (1 + d) } = false := by
  rw [Bool.eq_false_iff]
  intro hh
  simp only [mayB, linksB, metersB, timersB, magicsB, shapeB, meterB, secB, inB, Bool.and_eq_true, decide_eq_true_eq, bne_iff_ne] at hh
  have _h0 : ByteArray.size ⟨#[]⟩ = 0 := rfl
  simp only [plainC] at hh
  omega

theorem forms_bad13 (d : Int) (_h : 0 ≤ d) : mayB { plainC with restart := 16 + (1 + d) } = false := by
  rw [Bool.eq_false_iff]
  intro hh
  simp only [mayB, linksB, metersB, timersB, magicsB, shapeB, meterB, secB, inB, Bool.and_eq_true, decide_eq_true_eq, bne_iff_ne] at hh
  have _h0 : ByteArray.size ⟨#[]⟩ = 0 := rfl
  simp only [plainC] at hh
  omega

theorem forms_bad14 (d : Int) (_h : 0 ≤ d) : mayB { plainC with tries := 2 - (1 + d) } = false := by
  rw [Bool.eq_false_iff]
  intro hh
  simp only [mayB, linksB, metersB, timersB, magicsB, shapeB, meterB, secB, inB, Bool.and_eq_true, decide_eq_true_eq, bne_iff_ne] at hh
  have _h0 : ByteArray.size ⟨#[]⟩ = 0 := rfl
  simp only [plainC] at hh
  omega

theorem forms_bad15 (d : Int) (_h : 0 ≤ d) : mayB { plainC with sa := ⟨#[]⟩ } = false := by
  rw [Bool.eq_false_iff]
  intro hh
  simp only [mayB, linksB, metersB, timersB, magicsB, shapeB, meterB, secB, inB, Bool.and_eq_true, decide_eq_true_eq, bne_iff_ne] at hh
  have _h0 : ByteArray.size ⟨#[]⟩ = 0 := rfl
  simp only [plainC] at hh
  omega

theorem forms_bad17 (d : Int) (_h : 0 ≤ d) : mayB { plainC with ma := 2 } = false := by
  rw [Bool.eq_false_iff]
  intro hh
  simp only [mayB, linksB, metersB, timersB, magicsB, shapeB, meterB, secB, inB, Bool.and_eq_true, decide_eq_true_eq, bne_iff_ne] at hh
  have _h0 : ByteArray.size ⟨#[]⟩ = 0 := rfl
  simp only [plainC] at hh
  omega

theorem forms_bad18 (d : Int) (_h : 0 ≤ d) : mayB { plainC with mb := 1 - (1 + d) } = false := by
  rw [Bool.eq_false_iff]
  intro hh
  simp only [mayB, linksB, metersB, timersB, magicsB, shapeB, meterB, secB, inB, Bool.and_eq_true, decide_eq_true_eq, bne_iff_ne] at hh
  have _h0 : ByteArray.size ⟨#[]⟩ = 0 := rfl
  simp only [plainC] at hh
  omega

theorem forms_bad19 (d : Int) (_h : 0 ≤ d) : mayB { plainC with ma := 4294967295 + (1 + d) } = false := by
  rw [Bool.eq_false_iff]
  intro hh
  simp only [mayB, linksB, metersB, timersB, magicsB, shapeB, meterB, secB, inB, Bool.and_eq_true, decide_eq_true_eq, bne_iff_ne] at hh
  have _h0 : ByteArray.size ⟨#[]⟩ = 0 := rfl
  simp only [plainC] at hh
  omega

def zeros (n : Nat) : ByteArray := ⟨(List.replicate n (0 : UInt8)).toArray⟩

theorem size_zeros (n : Nat) : (zeros n).size = n := by simp [zeros, ByteArray.size]

theorem info5 : (Try.prog.info? 5).map (fun i => (i.zero, i.size, i.bytes)) = some (some (.int .u8 0), 1, 1) := by kernel_rfl

theorem make_bytes (n : Nat) (x : Int) (hx : x = (n : Int)) (hn : n ≤ 1000) (w : World) :
    (Instr.makeSlice 36 (.int .i64 x) (.int .i64 x)).run Try.prog w = .ok (.slice (some ⟨w.heap.size, 0, none⟩) n n) (w.alloc (.cells (madeCells #[.int .u8 0] n) 5)) := by
  obtain ⟨i, hi, hz, hs, hb⟩ := info_parts info5
  have hr := run_make (P := Try.prog) w 36 5 i (.int .u8 0) Try.underlying36 hi hz .i64 .i64 x x (by omega) (Int.le_refl _) (by rw [hb]; omega) (by omega)
  subst hx
  simp only [Int.toNat_natCast, hs, Nat.mul_one] at hr
  exact hr

theorem text_bytes (n : Nat) (w : World) :
    (convert 36 9 (.slice (some ⟨w.heap.size, 0, none⟩) n n)).run Try.prog (w.alloc (.cells (madeCells #[.int .u8 0] n) 5)) = .ok (.string (zeros n)) (w.alloc (.cells (madeCells #[.int .u8 0] n) 5)) := by
  have h := run_convert_bytes_back (P := Try.prog) (w.alloc (.cells (madeCells #[.int .u8 0] n) 5)) 36 9 5 ⟨w.heap.size, 0, none⟩ n (List.replicate n (0 : UInt8)) Try.underlying36 Try.underlying5 Try.underlying9 (by
    intro j hj
    have hj' : j < n := by simpa using hj
    rw [Addr.add_lit, (Blk.new w (madeCells #[.int .u8 0] n) 5).cell]
    simp [madeCells, hj', Nat.mod_one])
  unfold zeros
  simpa using h

theorem forms_bad16 (n : Nat) (h : 65 ≤ n) : mayB { plainC with ex := zeros n } = false := by
  rw [Bool.eq_false_iff]
  intro hh
  simp only [mayB, linksB, metersB, timersB, magicsB, shapeB, meterB, secB, inB, Bool.and_eq_true, decide_eq_true_eq, bne_iff_ne] at hh
  simp only [plainC, size_zeros] at hh
  omega

set_option maxRecDepth 100000 in
set_option maxHeartbeats 1000000 in
theorem forms_walk (k by' : Int) (_ : (Lit.int .i64 k).wf = true) (_ : (Lit.int .i64 by').wf = true) (w : World) :
    Calls Try.prog 5 #[.int .i64 k, .int .i64 by'] w fun e w' => e = .returned (.bool true) ∧ Below w.heap.size w w' := by
  go_enter Try.func5, Try.ntmps5
  go_wp2_with fail
  refine (awake_ok _).mono ?_
  rintro e w0 ⟨rfl, hs0⟩
  have HS0 := Lib.hid hs0; clear hs0
  go_wp2_with fail
  refine (plain_cs _).mono ?_
  rintro e w1 ⟨cs, rfl, hc, hone, hs1⟩
  have HO := Lib.hid hone; clear hone
  have HS := Lib.hid (HS0.out.trans hs1); clear hs1 HS0
  obtain ⟨hM0, hM1⟩ := umod20 k
  go_upto_region 4 with (refine wpList_store_row rfl 23 _ _ rfl _ cs rfl rfl 23 _ (Blk.new _ _ _) hc.size HO.out.1.symm HO.out.2 ?_)
  have hb2 := blk_row (cs := cs) (Blk.new w1 #[.int .i64 0, .int .i64 0, .int .i64 0, .int .i64 0, .int .i64 0, .int .i64 0, .int .i64 0, .int .i64 0, .int .i64 0, .int .i64 0, .int .i64 0, .int .i64 0, .bool false, .string ⟨#[]⟩, .string ⟨#[]⟩, .string ⟨#[]⟩, .int .i64 0, .int .i64 0] 23)
  have hw2 := fr_row (HS.out.alloc (.cells #[.int .i64 0, .int .i64 0, .int .i64 0, .int .i64 0, .int .i64 0, .int .i64 0, .int .i64 0, .int .i64 0, .int .i64 0, .int .i64 0, .int .i64 0, .int .i64 0, .bool false, .string ⟨#[]⟩, .string ⟨#[]⟩, .string ⟨#[]⟩, .int .i64 0, .int .i64 0] 23)) HS.out.size cs
  generalize World.setRow _ _ cs = w2 at *
  have hgw : w.heap.size ≤ w1.heap.size := HS.out.size
  generalize w1.heap.size = g at *
  have hd0 : 0 ≤ by' % 64 := by omega
  have hd1 : by' % 64 ≤ 63 := by omega
  generalize hM : (IntKind.u64.wrap k).tmod 20 = M at *
  generalize hd : by' % 64 = d at *
  have B2 := Lib.hid hb2; clear hb2
  have S2 := Lib.hid hw2; clear hw2 HS
  have hcases : M = 0 ∨ M = 1 ∨ M = 2 ∨ M = 3 ∨ M = 4 ∨ M = 5 ∨ M = 6 ∨ M = 7 ∨ M = 8 ∨ M = 9 ∨ M = 10 ∨ M = 11 ∨ M = 12 ∨ M = 13 ∨ M = 14 ∨ M = 15 ∨ M = 16 ∨ M = 17 ∨ M = 18 ∨ M = 19 := by omega
  clear hM0 hM1
  go_upto_block 0 with fail
  go_cut [21] (fun _ wx => ∃ c' cs', IsCfg c' cs' ∧ mayB c' = false ∧ Blk wx g cs' 23 ∧ Same w wx)
  case first =>
    rcases hcases with rfl | rfl | rfl | rfl | rfl | rfl | rfl | rfl | rfl | rfl | rfl | rfl | rfl | rfl | rfl | rfl | rfl | rfl | rfl | rfl
    · have ci : w2.cell? ⟨g, 0, none⟩ = some (.int .i64 4) := (B2.out.cell 0).trans (by rw [hc.eq]; rfl)
      have fi : w2.frozen? ⟨g, 0, none⟩ = false := B2.out.frozen 0
      go_wp2_with fail
      go_meet
      exact forms_end hc B2.out S2.out 0 (.int .i64 (8 + (1 + d))) { plainC with ports := 8 + (1 + d) } rfl (forms_bad0 d hd0) hgw
    · have ci : w2.cell? ⟨g, 0, none⟩ = some (.int .i64 4) := (B2.out.cell 0).trans (by rw [hc.eq]; rfl)
      have fi : w2.frozen? ⟨g, 0, none⟩ = false := B2.out.frozen 0
      go_wp2_with fail
      go_meet
      exact forms_end hc B2.out S2.out 0 (.int .i64 (1 - (1 + d))) { plainC with ports := 1 - (1 + d) } rfl (forms_bad1 d hd0) hgw
    · have ci : w2.cell? ⟨g, 1, none⟩ = some (.int .i64 3) := (B2.out.cell 1).trans (by rw [hc.eq]; rfl)
      have fi : w2.frozen? ⟨g, 1, none⟩ = false := B2.out.frozen 1
      have cq : w2.cell? ⟨g, 0, none⟩ = some (.int .i64 4) := (B2.out.cell 0).trans (by rw [hc.eq]; rfl)
      go_wp2_with fail
      go_meet
      exact forms_end hc B2.out S2.out 1 (.int .i64 (4 + (1 + d))) { plainC with links := 4 + (1 + d) } rfl (forms_bad2 d hd0) hgw
    · have ci : w2.cell? ⟨g, 2, none⟩ = some (.int .i64 1) := (B2.out.cell 2).trans (by rw [hc.eq]; rfl)
      have fi : w2.frozen? ⟨g, 2, none⟩ = false := B2.out.frozen 2
      have cq : w2.cell? ⟨g, 1, none⟩ = some (.int .i64 3) := (B2.out.cell 1).trans (by rw [hc.eq]; rfl)
      go_wp2_with fail
      go_meet
      exact forms_end hc B2.out S2.out 2 (.int .i64 (3 + (1 + d))) { plainC with least := 3 + (1 + d) } rfl (forms_bad3 d hd0) hgw
    · have ci : w2.cell? ⟨g, 2, none⟩ = some (.int .i64 1) := (B2.out.cell 2).trans (by rw [hc.eq]; rfl)
      have fi : w2.frozen? ⟨g, 2, none⟩ = false := B2.out.frozen 2
      go_wp2_with fail
      go_meet
      exact forms_end hc B2.out S2.out 2 (.int .i64 (1 - (1 + d))) { plainC with least := 1 - (1 + d) } rfl (forms_bad4 d hd0) hgw
    · have ci : w2.cell? ⟨g, 3, none⟩ = some (.int .i64 256) := (B2.out.cell 3).trans (by rw [hc.eq]; rfl)
      have fi : w2.frozen? ⟨g, 3, none⟩ = false := B2.out.frozen 3
      go_wp2_with fail
      go_meet
      exact forms_end hc B2.out S2.out 3 (.int .i64 (64 - (1 + d))) { plainC with rate := 64 - (1 + d) } rfl (forms_bad5 d hd0) hgw
    · have ci : w2.cell? ⟨g, 3, none⟩ = some (.int .i64 256) := (B2.out.cell 3).trans (by rw [hc.eq]; rfl)
      have fi : w2.frozen? ⟨g, 3, none⟩ = false := B2.out.frozen 3
      go_wp2_with fail
      go_meet
      exact forms_end hc B2.out S2.out 3 (.int .i64 (4096 + (1 + d))) { plainC with rate := 4096 + (1 + d) } rfl (forms_bad6 d hd0) hgw
    · have ci : w2.cell? ⟨g, 4, none⟩ = some (.int .i64 16) := (B2.out.cell 4).trans (by rw [hc.eq]; rfl)
      have fi : w2.frozen? ⟨g, 4, none⟩ = false := B2.out.frozen 4
      go_wp2_with fail
      go_meet
      exact forms_end hc B2.out S2.out 4 (.int .i64 (64 + (1 + d))) { plainC with window := 64 + (1 + d) } rfl (forms_bad7 d hd0) hgw
    · have ci : w2.cell? ⟨g, 5, none⟩ = some (.int .i64 800) := (B2.out.cell 5).trans (by rw [hc.eq]; rfl)
      have fi : w2.frozen? ⟨g, 5, none⟩ = false := B2.out.frozen 5
      go_wp2_with fail
      go_meet
      exact forms_end hc B2.out S2.out 5 (.int .i64 (1000 + (1 + d))) { plainC with high := 1000 + (1 + d) } rfl (forms_bad8 d hd0) hgw
    · have ci : w2.cell? ⟨g, 6, none⟩ = some (.int .i64 200) := (B2.out.cell 6).trans (by rw [hc.eq]; rfl)
      have fi : w2.frozen? ⟨g, 6, none⟩ = false := B2.out.frozen 6
      have cq : w2.cell? ⟨g, 5, none⟩ = some (.int .i64 800) := (B2.out.cell 5).trans (by rw [hc.eq]; rfl)
      go_wp2_with fail
      go_meet
      exact forms_end hc B2.out S2.out 6 (.int .i64 (800 - 1 + (1 + d))) { plainC with low := 800 - 1 + (1 + d) } rfl (forms_bad9 d hd0) hgw
    · have ci : w2.cell? ⟨g, 7, none⟩ = some (.int .i64 4) := (B2.out.cell 7).trans (by rw [hc.eq]; rfl)
      have fi : w2.frozen? ⟨g, 7, none⟩ = false := B2.out.frozen 7
      go_wp2_with fail
      go_meet
      exact forms_end hc B2.out S2.out 7 (.int .i64 (64 + (1 + d))) { plainC with hold := 64 + (1 + d) } rfl (forms_bad10 d hd0) hgw
    · have ci : w2.cell? ⟨g, 8, none⟩ = some (.int .i64 2) := (B2.out.cell 8).trans (by rw [hc.eq]; rfl)
      have fi : w2.frozen? ⟨g, 8, none⟩ = false := B2.out.frozen 8
      have cq : w2.cell? ⟨g, 9, none⟩ = some (.int .i64 8) := (B2.out.cell 9).trans (by rw [hc.eq]; rfl)
      go_wp2_with fail
      go_meet
      exact forms_end hc B2.out S2.out 8 (.int .i64 (8 + (1 + d))) { plainC with base := 8 + (1 + d) } rfl (forms_bad11 d hd0) hgw
    · have ci : w2.cell? ⟨g, 9, none⟩ = some (.int .i64 8) := (B2.out.cell 9).trans (by rw [hc.eq]; rfl)
      have fi : w2.frozen? ⟨g, 9, none⟩ = false := B2.out.frozen 9
      go_wp2_with fail
      go_meet
      exact forms_end hc B2.out S2.out 9 (.int .i64 (64 + (1 + d))) { plainC with cap := 64 + (1 + d) } rfl (forms_bad12 d hd0) hgw
    · have ci : w2.cell? ⟨g, 10, none⟩ = some (.int .i64 3) := (B2.out.cell 10).trans (by rw [hc.eq]; rfl)
      have fi : w2.frozen? ⟨g, 10, none⟩ = false := B2.out.frozen 10
      go_wp2_with fail
      go_meet
      exact forms_end hc B2.out S2.out 10 (.int .i64 (16 + (1 + d))) { plainC with restart := 16 + (1 + d) } rfl (forms_bad13 d hd0) hgw
    · have ci : w2.cell? ⟨g, 11, none⟩ = some (.int .i64 4) := (B2.out.cell 11).trans (by rw [hc.eq]; rfl)
      have fi : w2.frozen? ⟨g, 11, none⟩ = false := B2.out.frozen 11
      go_wp2_with fail
      go_meet
      exact forms_end hc B2.out S2.out 11 (.int .i64 (2 - (1 + d))) { plainC with tries := 2 - (1 + d) } rfl (forms_bad14 d hd0) hgw
    · have ci : w2.cell? ⟨g, 13, none⟩ = some (.string byteS) := (B2.out.cell 13).trans (by rw [hc.eq]; rfl)
      have fi : w2.frozen? ⟨g, 13, none⟩ = false := B2.out.frozen 13
      go_wp2_with fail
      go_meet
      exact forms_end hc B2.out S2.out 13 (.string ⟨#[]⟩) { plainC with sa := ⟨#[]⟩ } rfl (forms_bad15 d hd0) hgw
    · obtain ⟨n, rfl⟩ := Int.eq_ofNat_of_zero_le hd0
      have ci : w2.cell? ⟨g, 15, none⟩ = some (.string byteS) := (B2.out.cell 15).trans (by rw [hc.eq]; rfl)
      have hb3 := B2.out.alloc (.cells (madeCells #[.int .u8 0] (65 + n)) 5)
      have ci3 : (w2.alloc (.cells (madeCells #[.int .u8 0] (65 + n)) 5)).cell? ⟨g, 15, none⟩ = some (.string byteS) := (hb3.cell 15).trans (by rw [hc.eq]; rfl)
      have fi3 := hb3.frozen 15
      have B3 := Lib.hid hb3; clear hb3
      have hmk := make_bytes (65 + n) (64 + (1 + (n : Int))) (by omega) (by omega) w2
      have hcv := text_bytes (65 + n) w2
      go_wp2_with fail
      go_meet
      exact forms_end hc B3.out (S2.out.alloc _) 15 (.string (zeros (65 + n))) { plainC with ex := zeros (65 + n) } rfl (forms_bad16 (65 + n) (by omega)) hgw
    · have ci : w2.cell? ⟨g, 16, none⟩ = some (.int .i64 1) := (B2.out.cell 16).trans (by rw [hc.eq]; rfl)
      have fi : w2.frozen? ⟨g, 16, none⟩ = false := B2.out.frozen 16
      have cq : w2.cell? ⟨g, 17, none⟩ = some (.int .i64 2) := (B2.out.cell 17).trans (by rw [hc.eq]; rfl)
      go_wp2_with fail
      go_meet
      exact forms_end hc B2.out S2.out 16 (.int .i64 (2)) { plainC with ma := 2 } rfl (forms_bad17 d hd0) hgw
    · have ci : w2.cell? ⟨g, 17, none⟩ = some (.int .i64 2) := (B2.out.cell 17).trans (by rw [hc.eq]; rfl)
      have fi : w2.frozen? ⟨g, 17, none⟩ = false := B2.out.frozen 17
      go_wp2_with fail
      go_meet
      exact forms_end hc B2.out S2.out 17 (.int .i64 (1 - (1 + d))) { plainC with mb := 1 - (1 + d) } rfl (forms_bad18 d hd0) hgw
    · have ci : w2.cell? ⟨g, 16, none⟩ = some (.int .i64 1) := (B2.out.cell 16).trans (by rw [hc.eq]; rfl)
      have fi : w2.frozen? ⟨g, 16, none⟩ = false := B2.out.frozen 16
      go_wp2_with fail
      go_meet
      exact forms_end hc B2.out S2.out 16 (.int .i64 (4294967295 + (1 + d))) { plainC with ma := 4294967295 + (1 + d) } rfl (forms_bad19 d hd0) hgw
  case rest =>
    obtain ⟨c', cs', hc', hm', hb', hs'⟩ := hcut
    have B3 := Lib.hid hb'; clear hb'
    have S3 := Lib.hid hs'; clear hs' S2 B2 HO
    have HM := Lib.hid hm'; clear hm' hM hd hd0 hd1 hcases
    go_wp2_with (refine wpList_load_row rfl 23 _ rfl _ rfl 23 cs' (0, 0) _ B3.out Try.underlying23 rfl hc'.size ?_)
    refine (links_bad 5 c' cs' hc' _ (Or.inl HM.out)).mono ?_
    rintro e w4 ⟨rfl, hs4⟩
    have B4 := Lib.hid (B3.out.keep hs4 id)
    have S4 := Lib.hid (S3.out.trans hs4); clear hs4 B3 S3
    go_wp2_with fail
    refine (plain_cs _).mono ?_
    rintro e w5 ⟨cs2, rfl, hc2, hone2, hs5⟩
    have B5 := Lib.hid (B4.out.keep hs5 id)
    have S5 := Lib.hid (S4.out.trans hs5); clear hs5 B4 S4 hone2
    go_wp2_with fail
    refine (may_cs hc2 _ true may_plain).mono ?_
    rintro e w6 ⟨rfl, rfl⟩
    have B6 : Hid (Blk (w5.alloc (.cells cs2 23)) g cs' 23) := Lib.hid (B5.out.alloc _)
    have S6 : Hid (Same w (w5.alloc (.cells cs2 23))) := Lib.hid (S5.out.alloc _)
    clear S5 B5
    generalize w5.alloc (.cells cs2 23) = w6 at *
    go_wp2_with (refine wpList_load_row_w rfl 23 _ rfl _ rfl 23 cs' (0, 0) _ B6.out Try.underlying23 rfl hc'.size ?_)
    refine (may_cs hc' _ false HM.out).mono ?_
    rintro e w7 ⟨rfl, rfl⟩
    go_wp2_with (go_at_call 9; refine (num_any _ _).mono ?_; rintro e w8 ⟨rfl, rfl⟩)
    go_ret
    exact ⟨rfl, Same.below (S6.out.alloc _)⟩

end Go.Proofs.Ytobpjejeignacaa
