/- The walk over the reference's May, and that it is the program's. -/
import Derived.Test.YtobpjejeignacaaMay
namespace Go.Proofs.Ytobpjejeignacaa
open Go.RowKit

def sizeR (c : Cfg) : Bool := inB c.ports 1 8 && decide (1 ≤ c.links) && decide (c.links ≤ c.ports) && decide (c.links ≤ 6) && inB c.least 1 c.links && inB c.rate 64 4096 && inB c.window 1 64
def shareR (c : Cfg) : Bool := inB c.high 1 1000 && decide (0 ≤ c.low) && decide (c.low < c.high) && inB c.hold 1 64
def timeR (c : Cfg) : Bool := inB c.base 1 c.cap && decide (c.cap ≤ 64) && inB c.restart 2 16 && inB c.tries 2 10
def secR (c : Cfg) : Bool := secB c.sa && secB c.sb && secB c.ex
def rmayB (c : Cfg) : Bool := sizeR c && shareR c && timeR c && secR c && inB c.ma 1 4294967295 && inB c.mb 1 4294967295 && (c.ma != c.mb)

theorem rmay_eq (c : Cfg) : rmayB c = mayB c := by
  unfold rmayB mayB sizeR shareR timeR secR linksB metersB timersB magicsB shapeB meterB inB
  rw [Bool.eq_iff_iff]
  simp
  constructor
  · intro h
    obtain ⟨h1, h2⟩ := h
    simp [*]
    try omega
  · intro h
    obtain ⟨h1, h2⟩ := h
    simp [*]
    try omega

set_option maxRecDepth 100000 in
set_option maxHeartbeats 2000000 in
theorem rmay_any (c : Cfg) (w : World) : Calls Try.prog 11 #[.agg (cfgCells c)] w fun e w' => e = .returned (.bool (rmayB c)) ∧ w' = w.alloc (.cells (cfgCells c) 23) := by
  unfold rmayB
  obtain ⟨L, hL⟩ : ∃ L, sizeR c = L := ⟨_, rfl⟩
  obtain ⟨T, hT⟩ : ∃ T, shareR c = T := ⟨_, rfl⟩
  obtain ⟨U, hU⟩ : ∃ U, timeR c = U := ⟨_, rfl⟩
  obtain ⟨G, hG⟩ : ∃ G, secR c = G := ⟨_, rfl⟩
  rw [hL, hT, hU, hG]
  obtain ⟨ports, links, least, rate, window, high, low, hold, base, cap, restart, tries, short, sa, sb, ex, ma, mb⟩ := c
  simp only [cfgCells, sizeR, shareR, timeR, secR] at *
  have HL := Lib.hid hL; clear hL
  have HT := Lib.hid hT; clear hT
  have HU := Lib.hid hU; clear hU
  have HG := Lib.hid hG; clear hG
  go_enter Try.func11, Try.ntmps11
  go_upto_region 1 with fail
  have hb := Blk.new w #[.int .i64 ports, .int .i64 links, .int .i64 least, .int .i64 rate, .int .i64 window, .int .i64 high, .int .i64 low, .int .i64 hold, .int .i64 base, .int .i64 cap, .int .i64 restart, .int .i64 tries, .bool short, .string sa, .string sb, .string ex, .int .i64 ma, .int .i64 mb] 23
  generalize hW : w.alloc (.cells #[.int .i64 ports, .int .i64 links, .int .i64 least, .int .i64 rate, .int .i64 window, .int .i64 high, .int .i64 low, .int .i64 hold, .int .i64 base, .int .i64 cap, .int .i64 restart, .int .i64 tries, .bool short, .string sa, .string sb, .string ex, .int .i64 ma, .int .i64 mb] 23) = W at hb ⊢
  generalize w.heap.size = b at *
  have c0 : W.cell? ⟨b, 0, none⟩ = some (.int .i64 ports) := hb.cell 0
  have c1 : W.cell? ⟨b, 1, none⟩ = some (.int .i64 links) := hb.cell 1
  have c2 : W.cell? ⟨b, 2, none⟩ = some (.int .i64 least) := hb.cell 2
  have c3 : W.cell? ⟨b, 3, none⟩ = some (.int .i64 rate) := hb.cell 3
  have c4 : W.cell? ⟨b, 4, none⟩ = some (.int .i64 window) := hb.cell 4
  have c5 : W.cell? ⟨b, 5, none⟩ = some (.int .i64 high) := hb.cell 5
  have c6 : W.cell? ⟨b, 6, none⟩ = some (.int .i64 low) := hb.cell 6
  have c7 : W.cell? ⟨b, 7, none⟩ = some (.int .i64 hold) := hb.cell 7
  have c8 : W.cell? ⟨b, 8, none⟩ = some (.int .i64 base) := hb.cell 8
  have c9 : W.cell? ⟨b, 9, none⟩ = some (.int .i64 cap) := hb.cell 9
  have c10 : W.cell? ⟨b, 10, none⟩ = some (.int .i64 restart) := hb.cell 10
  have c11 : W.cell? ⟨b, 11, none⟩ = some (.int .i64 tries) := hb.cell 11
  have c12 : W.cell? ⟨b, 12, none⟩ = some (.bool short) := hb.cell 12
  have c13 : W.cell? ⟨b, 13, none⟩ = some (.string sa) := hb.cell 13
  have c14 : W.cell? ⟨b, 14, none⟩ = some (.string sb) := hb.cell 14
  have c15 : W.cell? ⟨b, 15, none⟩ = some (.string ex) := hb.cell 15
  have c16 : W.cell? ⟨b, 16, none⟩ = some (.int .i64 ma) := hb.cell 16
  have c17 : W.cell? ⟨b, 17, none⟩ = some (.int .i64 mb) := hb.cell 17
  have HW := Lib.hid hW; clear hW hb
  go_cut [3] (fun s3 wx => s3 = .bool L ∧ W = wx)
  case first =>
    as_aux_lemma =>
      go_wp2_with (go_at_call 20; refine (rsec_any _ _).mono ?_; rintro e w' ⟨rfl, rfl⟩)
      all_goals go_meet
      all_goals go_light
      all_goals exact ⟨val_bool (by as_aux_lemma => rw [← HL.out, Bool.eq_iff_iff]; simp only [inB, Bool.and_eq_true, decide_eq_true_eq, Bool.false_eq_true, false_iff]; omega), rfl⟩
  case rest =>
    obtain ⟨rfl, rfl⟩ := hcut
    go_upto_region 2 with fail
    go_cut [4] (fun s wx => s = .bool T ∧ W = wx)
    case first =>
      as_aux_lemma =>
        go_wp2_with (go_at_call 20; refine (rsec_any _ _).mono ?_; rintro e w' ⟨rfl, rfl⟩)
        all_goals go_meet
        all_goals go_light
        all_goals exact ⟨val_bool (by as_aux_lemma => rw [← HT.out, Bool.eq_iff_iff]; simp only [inB, Bool.and_eq_true, decide_eq_true_eq, Bool.false_eq_true, false_iff]; omega), rfl⟩
    case rest =>
      obtain ⟨rfl, rfl⟩ := hcut
      go_upto_region 3 with fail
      go_cut [5] (fun s wx => s = .bool U ∧ W = wx)
      case first =>
        as_aux_lemma =>
          go_wp2_with (go_at_call 20; refine (rsec_any _ _).mono ?_; rintro e w' ⟨rfl, rfl⟩)
          all_goals go_meet
          all_goals go_light
          all_goals exact ⟨val_bool (by as_aux_lemma => rw [← HU.out, Bool.eq_iff_iff]; simp only [inB, Bool.and_eq_true, decide_eq_true_eq, Bool.false_eq_true, false_iff]; omega), rfl⟩
      case rest =>
        obtain ⟨rfl, rfl⟩ := hcut
        go_upto_region 4 with fail
        go_cut [6] (fun s wx => s = .bool G ∧ W = wx)
        case first =>
          as_aux_lemma =>
            go_wp2_with (go_at_call 20; refine (rsec_any _ _).mono ?_; rintro e w' ⟨rfl, rfl⟩)
            all_goals go_meet
            all_goals go_light
            all_goals exact ⟨val_bool (by as_aux_lemma => rw [← HG.out]; simp [*]), rfl⟩
        case rest =>
          obtain ⟨rfl, rfl⟩ := hcut
          go_wp2_with (go_at_call 21; refine (rmag_any _ _).mono ?_; rintro e w' ⟨rfl, rfl⟩)
          all_goals go_ret
          all_goals exact ⟨ret_bool (by simp [*]), HW.out.symm⟩

end Go.Proofs.Ytobpjejeignacaa
