/- Walks over the small functions of package circuit: side, Num, New, Busy, Up, Fail, Hang, Cut, open, Dial. -/
import Derived.Test.YtmbnifnhalgdgaaMap
import Derived.BigQuiet
import Derived.BigRegion
import Derived.Deep.QuietTactic
import Derived.StillTailTactics
namespace Go.Proofs.Ytmbnifnhalgdgaa
open Go.RowKit

theorem ret_bool {a b : Bool} (h : a = b) : Ending.returned (.bool a) = .returned (.bool b) := by rw [h]

set_option maxHeartbeats 400000 in
theorem num_any (a : Int) (w : World) : Calls Try.prog 12 #[.int .i64 a] w fun e w' => e = .returned (.int .i64 a) ∧ w = w' := by
  go_enter Try.func12, Try.ntmps12
  go_wp2
  go_ret
  exact ⟨rfl, rfl⟩

def Side (n : Int) : Prop := n = 0 ∨ n = 1

theorem side_yes (n : Int) (w : World) (h : Side n) : Calls Try.prog 21 #[.int .i64 n] w fun e w' => e = .returned (.bool true) ∧ w = w' := by
  rcases h with rfl | rfl
  all_goals
    go_enter Try.func21, Try.ntmps21
    go_wp2
    go_ret
    exact ⟨rfl, rfl⟩

theorem side_no (n : Int) (w : World) (h : ¬ Side n) : Calls Try.prog 21 #[.int .i64 n] w fun e w' => e = .returned (.bool false) ∧ w = w' := by
  have h0 : (n == 0) = false := by rw [beq_eq_false_iff_ne]; exact fun e => h (Or.inl e)
  have h1 : (n == 1) = false := by rw [beq_eq_false_iff_ne]; exact fun e => h (Or.inr e)
  clear h
  go_enter Try.func21, Try.ntmps21
  go_wp2
  go_ret
  exact ⟨rfl, rfl⟩

/-- What a switch's block holds. -/
def swCells (ports most last owed : Int) (mb : Nat) : Array Value := #[.int .i64 ports, .int .i64 most, .int .i64 last, .map (some mb), .int .i64 owed]

set_option maxHeartbeats 400000 in
theorem new_good (p m : Int) (w : World) (h1 : 1 ≤ p) (h2 : p ≤ 8) (h3 : 1 ≤ m) (h4 : m ≤ 65536) :
    Calls Try.prog 9 #[.int .i64 p, .int .i64 m] w fun e w' => e = .returned (.tuple #[.pointer (some ⟨w.heap.size + 1, 0, none⟩), .int .i64 0]) ∧
      w' = (w.alloc (.map #[] 0)).alloc (.cells (swCells p m 0 0 w.heap.size) 50) := by
  have hmm := @run_makeMap Try.prog
  go_enter Try.func9, Try.ntmps9
  go_wp2
  go_ret2
  exact ⟨rfl, rfl⟩

set_option maxHeartbeats 400000 in
theorem busy_ok {w : World} {sb mb n : Nat} {f : Int → Option Nat} {ports most last owed : Int} (hb : Blk w sb (swCells ports most last owed mb) 50) (hm : IsMp w mb n f) (x : Int) (hx : Side x) :
    Calls Try.prog 13 #[.pointer (some ⟨sb, 0, none⟩), .int .i64 x] w fun e w' => e = .returned (.int .i64 (n : Int)) ∧ w = w' := by
  have c3 : w.cell? ⟨sb, 3, none⟩ = some (.map (some mb)) := hb.cell 3
  have hl := fun ty => hm.len ty
  clear hb hm
  have HX := Lib.hid hx; clear hx
  go_enter Try.func13, Try.ntmps13
  go_wp2_with (go_at_call 21; refine (side_yes _ _ HX.out).mono ?_; rintro e w' ⟨rfl, rfl⟩)
  go_ret
  exact ⟨rfl, rfl⟩

theorem busy_no (sb : Nat) (x : Int) (w : World) (hx : ¬ Side x) :
    Calls Try.prog 13 #[.pointer (some ⟨sb, 0, none⟩), .int .i64 x] w fun e w' => e = .returned (.int .i64 0) ∧ w = w' := by
  have HX := Lib.hid hx; clear hx
  go_enter Try.func13, Try.ntmps13
  go_wp2_with (go_at_call 21; refine (side_no _ _ HX.out).mono ?_; rintro e w' ⟨rfl, rfl⟩)
  go_ret
  exact ⟨rfl, rfl⟩

set_option maxHeartbeats 400000 in
theorem up_yes {w : World} {sb mb n : Nat} {f : Int → Option Nat} {ports most last owed : Int} (hb : Blk w sb (swCells ports most last owed mb) 50) (hm : IsMp w mb n f) (c : Int) (hc : (Lit.int .i64 c).wf = true) (b : Nat) (hf : f c = some b) :
    Calls Try.prog 19 #[.pointer (some ⟨sb, 0, none⟩), .int .i64 c] w fun e w' => e = .returned (.bool true) ∧ w = w' := by
  have c3 : w.cell? ⟨sb, 3, none⟩ = some (.map (some mb)) := hb.cell 3
  have hl := hm.look c hc
  rw [hf] at hl
  have hl' : (Instr.lookup 48 (.map (some mb)) (.int .i64 c) false).run Try.prog w = .ok (.pointer (some ⟨b, 0, none⟩)) w := hl
  clear hb hm hl hf hc
  go_enter Try.func19, Try.ntmps19
  go_wp2
  go_ret
  exact ⟨rfl, rfl⟩

set_option maxHeartbeats 400000 in
theorem up_no {w : World} {sb mb n : Nat} {f : Int → Option Nat} {ports most last owed : Int} (hb : Blk w sb (swCells ports most last owed mb) 50) (hm : IsMp w mb n f) (c : Int) (hc : (Lit.int .i64 c).wf = true) (hf : f c = none) :
    Calls Try.prog 19 #[.pointer (some ⟨sb, 0, none⟩), .int .i64 c] w fun e w' => e = .returned (.bool false) ∧ w = w' := by
  have c3 : w.cell? ⟨sb, 3, none⟩ = some (.map (some mb)) := hb.cell 3
  have hl := hm.look c hc
  rw [hf] at hl
  have hl' : (Instr.lookup 48 (.map (some mb)) (.int .i64 c) false).run Try.prog w = .ok (.pointer none) w := hl
  clear hb hm hl hf hc
  go_enter Try.func19, Try.ntmps19
  go_wp2
  go_ret
  exact ⟨rfl, rfl⟩

set_option maxHeartbeats 400000 in
theorem fail_ok {w : World} {sb mb : Nat} {ports most last owed : Int} (hb : Blk w sb (swCells ports most last owed mb) 50) (x : Int) (hx : 0 ≤ x) :
    Calls Try.prog 10 #[.pointer (some ⟨sb, 0, none⟩), .int .i64 x] w fun e w' => e = .returned (.int .i64 0) ∧ Blk w' sb (swCells ports most last x mb) 50 ∧ Fr (fun k => k = sb) w w' := by
  have c4 : w.cell? ⟨sb, 4, none⟩ = some (.int .i64 owed) := hb.cell 4
  have f4 := hb.frozen 4
  have HB := Lib.hid hb; clear hb
  go_enter Try.func10, Try.ntmps10
  go_wp2
  go_ret
  refine ⟨rfl, ?_, Fr.setCell (S := fun k => k = sb) (Fr.refl _ _) (Or.inr rfl) _⟩
  have := HB.out.set 4 (.int .i64 x)
  simpa [swCells] using this

theorem fail_bad (sb : Nat) (x : Int) (w : World) (hx : x < 0) :
    Calls Try.prog 10 #[.pointer (some ⟨sb, 0, none⟩), .int .i64 x] w fun e w' => e = .returned (.int .i64 2500) ∧ w = w' := by
  go_enter Try.func10, Try.ntmps10
  go_wp2
  go_ret
  exact ⟨rfl, rfl⟩

set_option maxHeartbeats 400000 in
theorem hang_no {w : World} {sb mb n : Nat} {f : Int → Option Nat} {ports most last owed : Int} (hb : Blk w sb (swCells ports most last owed mb) 50) (hm : IsMp w mb n f) (c : Int) (hc : (Lit.int .i64 c).wf = true) (hf : f c = none) :
    Calls Try.prog 20 #[.pointer (some ⟨sb, 0, none⟩), .int .i64 c] w fun e w' => e = .returned (.int .i64 2502) ∧ w = w' := by
  have c3 : w.cell? ⟨sb, 3, none⟩ = some (.map (some mb)) := hb.cell 3
  have hl := hm.look c hc
  rw [hf] at hl
  have hl' : (Instr.lookup 48 (.map (some mb)) (.int .i64 c) false).run Try.prog w = .ok (.pointer none) w := hl
  clear hb hm hl hf hc
  go_enter Try.func20, Try.ntmps20
  go_wp2
  go_ret
  exact ⟨rfl, rfl⟩

set_option maxHeartbeats 400000 in
theorem hang_yes {w : World} {sb mb n : Nat} {f : Int → Option Nat} {ports most last owed : Int} (hb : Blk w sb (swCells ports most last owed mb) 50) (hm : IsMp w mb n f) (c : Int) (hc : (Lit.int .i64 c).wf = true) (b : Nat) (hf : f c = some b) :
    Calls Try.prog 20 #[.pointer (some ⟨sb, 0, none⟩), .int .i64 c] w fun e w' => e = .returned (.int .i64 0) ∧ 0 < n ∧ IsMp w' mb (n - 1) (setAt f c none) ∧ Fr (fun k => k = mb) w w' := by
  have c3 : w.cell? ⟨sb, 3, none⟩ = some (.map (some mb)) := hb.cell 3
  have hl := hm.look c hc
  rw [hf] at hl
  have hl' : (Instr.lookup 48 (.map (some mb)) (.int .i64 c) false).run Try.prog w = .ok (.pointer (some ⟨b, 0, none⟩)) w := hl
  have HM := Lib.hid hm
  have HF := Lib.hid hf
  have HC := Lib.hid hc
  clear hb hm hl hf hc
  go_enter Try.func20, Try.ntmps20
  go_wp2_with (at_delete; refine wpList_delete_mp _ rfl _ _ rfl mb n f rfl HM.out c rfl HC.out b HF.out ?_)
  intro w' hn0 hm' hfr
  have HM' := Lib.hid hm'; clear hm'
  have HFR := Lib.hid hfr; clear hfr
  go_wp2
  go_ret
  exact ⟨rfl, hn0, HM'.out, HFR.out⟩

theorem cut_of {sb : Nat} {c : Int} {w : World} (x : Int) (R : World → Prop)
    (h : Calls Try.prog 20 #[.pointer (some ⟨sb, 0, none⟩), .int .i64 c] w fun e w' => e = .returned (.int .i64 x) ∧ R w') :
    Calls Try.prog 15 #[.pointer (some ⟨sb, 0, none⟩), .int .i64 c] w fun e w' => e = .returned (.int .i64 x) ∧ R w' := by
  have H := Lib.hid h; clear h
  go_enter Try.func15, Try.ntmps15
  go_wp2_with fail
  refine H.out.mono ?_
  rintro e w' ⟨rfl, hr⟩
  have HR := Lib.hid hr; clear hr
  go_wp2
  go_ret
  exact ⟨rfl, HR.out⟩

end Go.Proofs.Ytmbnifnhalgdgaa
