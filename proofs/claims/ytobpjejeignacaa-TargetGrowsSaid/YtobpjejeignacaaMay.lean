/- The walks over May of package target. -/
import Derived.Test.YtobpjejeignacaaWalksB
import Derived.Deep.Light
namespace Go.Proofs.Ytobpjejeignacaa
open Go.RowKit

theorem val_bool {a b : Bool} (h : a = b) : Value.bool a = Value.bool b := by rw [h]

def cfgCells (c : Cfg) : Array Value := #[.int .i64 c.ports, .int .i64 c.links, .int .i64 c.least, .int .i64 c.rate, .int .i64 c.window, .int .i64 c.high, .int .i64 c.low, .int .i64 c.hold, .int .i64 c.base, .int .i64 c.cap, .int .i64 c.restart, .int .i64 c.tries, .bool c.short, .string c.sa, .string c.sb, .string c.ex, .int .i64 c.ma, .int .i64 c.mb]

def linksB (c : Cfg) : Bool := inB c.ports 1 8 && decide (c.links ≤ c.ports) && shapeB c.rate c.least c.links
def metersB (c : Cfg) : Bool := inB c.window 1 64 && meterB 1 c.high c.low c.hold && decide (c.hold ≤ 64)
def timersB (c : Cfg) : Bool := inB c.base 1 c.cap && decide (c.cap ≤ 64) && inB c.restart 2 16 && inB c.tries 2 10
def magicsB (c : Cfg) : Bool := inB c.ma 1 4294967295 && inB c.mb 1 4294967295 && (c.ma != c.mb)
def mayB (c : Cfg) : Bool := linksB c && metersB c && timersB c && magicsB c && secB c.sa && secB c.sb && secB c.ex

set_option maxRecDepth 100000 in
set_option maxHeartbeats 2000000 in
theorem may_any (c : Cfg) (w : World) : Calls Try.prog 10 #[.agg (cfgCells c)] w fun e w' => e = .returned (.bool (mayB c)) ∧ w' = w.alloc (.cells (cfgCells c) 23) := by
  unfold mayB
  obtain ⟨L, hL⟩ : ∃ L, linksB c = L := ⟨_, rfl⟩
  obtain ⟨T, hT⟩ : ∃ T, metersB c = T := ⟨_, rfl⟩
  obtain ⟨U, hU⟩ : ∃ U, timersB c = U := ⟨_, rfl⟩
  obtain ⟨G, hG⟩ : ∃ G, magicsB c = G := ⟨_, rfl⟩
  rw [hL, hT, hU, hG]
  obtain ⟨ports, links, least, rate, window, high, low, hold, base, cap, restart, tries, short, sa, sb, ex, ma, mb⟩ := c
  simp only [cfgCells, linksB, metersB, timersB, magicsB] at *
  have HL := Lib.hid hL; clear hL
  have HT := Lib.hid hT; clear hT
  have HU := Lib.hid hU; clear hU
  have HG := Lib.hid hG; clear hG
  go_enter Try.func10, Try.ntmps10
  go_upto_region 1 with fail
  have hb := Blk.new w #[.int .i64 ports, .int .i64 links, .int .i64 least, .int .i64 rate, .int .i64 window, .int .i64 high, .int .i64 low, .int .i64 hold, .int .i64 base, .int .i64 cap, .int .i64 restart, .int .i64 tries, .bool short, .string sa, .string sb, .string ex, .int .i64 ma, .int .i64 mb] 23
  generalize hW : w.alloc (.cells #[.int .i64 ports, .int .i64 links, .int .i64 least, .int .i64 rate, .int .i64 window, .int .i64 high, .int .i64 low, .int .i64 hold, .int .i64 base, .int .i64 cap, .int .i64 restart, .int .i64 tries, .bool short, .string sa, .string sb, .string ex, .int .i64 ma, .int .i64 mb] 23) = W at hb ⊢
  generalize w.heap.size = b at *
  have c0 : W.cell? ⟨b, 0, none⟩ = some (.int .i64 ports) := hb.cell 0
  have c1 : W.cell? ⟨b, 1, none⟩ = some (.int .i64 links) := hb.cell 1
  have c2 : W.cell? ⟨b, 2, none⟩ = some (.int .i64 least) := hb.cell 2
  have c3 : W.cell? ⟨b, 3, none⟩ = some (.int .i64 rate) := hb.cell 3
  have c4 : W.cell? ⟨b, 4, none⟩ = some (.int .i64 window) := hb.cell 4
  have c5 : W.cell? ⟨b, 5, none⟩ = some (.int .i64 high) := hb.cell 5
  have c6 : W.cell? ⟨b, 6, none⟩ = some (.int .i64 low) := hb.cell 6
  have c7 : W.cell? ⟨b, 7, none⟩ = some (.int .i64 hold) := hb.cell 7
  have c8 : W.cell? ⟨b, 8, none⟩ = some (.int .i64 base) := hb.cell 8
  have c9 : W.cell? ⟨b, 9, none⟩ = some (.int .i64 cap) := hb.cell 9
  have c10 : W.cell? ⟨b, 10, none⟩ = some (.int .i64 restart) := hb.cell 10
  have c11 : W.cell? ⟨b, 11, none⟩ = some (.int .i64 tries) := hb.cell 11
  have c12 : W.cell? ⟨b, 12, none⟩ = some (.bool short) := hb.cell 12
  have c13 : W.cell? ⟨b, 13, none⟩ = some (.string sa) := hb.cell 13
  have c14 : W.cell? ⟨b, 14, none⟩ = some (.string sb) := hb.cell 14
  have c15 : W.cell? ⟨b, 15, none⟩ = some (.string ex) := hb.cell 15
  have c16 : W.cell? ⟨b, 16, none⟩ = some (.int .i64 ma) := hb.cell 16
  have c17 : W.cell? ⟨b, 17, none⟩ = some (.int .i64 mb) := hb.cell 17
  have HW := Lib.hid hW; clear hW hb
  go_cut [3] (fun s3 wx => s3 = .bool L ∧ W = wx)
  case first =>
    go_wp2_with (first | (go_at_call 16; refine (in_any _ _ _ _).mono ?_; rintro e w' ⟨rfl, rfl⟩) | (go_at_call 17; refine (shape_any _ _ _ _).mono ?_; rintro e w' ⟨rfl, rfl⟩))
    all_goals go_meet
    all_goals go_light
    all_goals exact ⟨val_bool (by rw [← HL.out]; first | (simp [*]; done) | (simp [*]; omega) | (simp [*]; intros; omega)), rfl⟩
  case rest =>
    obtain ⟨rfl, rfl⟩ := hcut
    go_upto_region 2 with fail
    go_cut [4] (fun s wx => s = .bool T ∧ W = wx)
    case first =>
      go_wp2_with (first | (go_at_call 16; refine (in_any _ _ _ _).mono ?_; rintro e w' ⟨rfl, rfl⟩) | (go_at_call 17; refine (shape_any _ _ _ _).mono ?_; rintro e w' ⟨rfl, rfl⟩) | (go_at_call 18; refine (meter_any _ _ _ _ _).mono ?_; rintro e w' ⟨rfl, rfl⟩) | (go_at_call 19; refine (sec_any _ _).mono ?_; rintro e w' ⟨rfl, rfl⟩))
      all_goals go_meet
      all_goals go_light
      all_goals exact ⟨val_bool (by rw [← HT.out]; first | (simp [*]; done) | (simp [*]; omega) | (simp [*]; intros; omega)), rfl⟩
    case rest =>
      obtain ⟨rfl, rfl⟩ := hcut
      go_upto_region 3 with fail
      go_cut [5] (fun s wx => s = .bool U ∧ W = wx)
      case first =>
        go_wp2_with (first | (go_at_call 16; refine (in_any _ _ _ _).mono ?_; rintro e w' ⟨rfl, rfl⟩) | (go_at_call 17; refine (shape_any _ _ _ _).mono ?_; rintro e w' ⟨rfl, rfl⟩) | (go_at_call 18; refine (meter_any _ _ _ _ _).mono ?_; rintro e w' ⟨rfl, rfl⟩) | (go_at_call 19; refine (sec_any _ _).mono ?_; rintro e w' ⟨rfl, rfl⟩))
        all_goals go_meet
        all_goals go_light
        all_goals exact ⟨val_bool (by rw [← HU.out]; first | (simp [*]; done) | (simp [*]; omega) | (simp [*]; intros; omega)), rfl⟩
      case rest =>
        obtain ⟨rfl, rfl⟩ := hcut
        go_upto_region 4 with fail
        go_cut [6] (fun s wx => s = .bool G ∧ W = wx)
        case first =>
          go_wp2_with (first | (go_at_call 16; refine (in_any _ _ _ _).mono ?_; rintro e w' ⟨rfl, rfl⟩) | (go_at_call 17; refine (shape_any _ _ _ _).mono ?_; rintro e w' ⟨rfl, rfl⟩) | (go_at_call 18; refine (meter_any _ _ _ _ _).mono ?_; rintro e w' ⟨rfl, rfl⟩) | (go_at_call 19; refine (sec_any _ _).mono ?_; rintro e w' ⟨rfl, rfl⟩))
          all_goals go_meet
          all_goals go_light
          all_goals exact ⟨val_bool (by rw [← HG.out]; first | (simp [*]; done) | (simp [*]; omega) | (simp [*]; intros; omega)), rfl⟩
        case rest =>
          obtain ⟨rfl, rfl⟩ := hcut
          go_wp2_with (go_at_call 19; refine (sec_any _ _).mono ?_; rintro e w' ⟨rfl, rfl⟩)
          all_goals go_ret
          all_goals exact ⟨ret_bool (by simp [*]), HW.out.symm⟩

end Go.Proofs.Ytobpjejeignacaa
