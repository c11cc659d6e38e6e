/- Walks over open and Dial of package circuit. -/
import Derived.Test.YtmbnifnhalgdgaaWalksA
namespace Go.Proofs.Ytmbnifnhalgdgaa
open Go.RowKit

set_option maxHeartbeats 400000 in
theorem open_none {w : World} {sb mb n : Nat} {f : Int → Option Nat} {ports most last owed : Int} (hb : Blk w sb (swCells ports most last owed mb) 50) (hm : IsMp w mb n f) (c x : Int) (hc : (Lit.int .i64 c).wf = true) (hf : f c = none) :
    Calls Try.prog 22 #[.pointer (some ⟨sb, 0, none⟩), .int .i64 c, .int .i64 x] w fun e w' => e = .returned (.tuple #[.pointer none, .int .i64 2502]) ∧ w = w' := by
  have c3 : w.cell? ⟨sb, 3, none⟩ = some (.map (some mb)) := hb.cell 3
  have hl := hm.look c hc
  rw [hf] at hl
  have hl' : (Instr.lookup 48 (.map (some mb)) (.int .i64 c) false).run Try.prog w = .ok (.pointer none) w := hl
  clear hb hm hl hf hc
  go_enter Try.func22, Try.ntmps22
  go_wp2
  go_ret2
  exact ⟨rfl, rfl⟩

set_option maxHeartbeats 400000 in
theorem open_form {w : World} {sb mb n : Nat} {f : Int → Option Nat} {ports most last owed : Int} (hb : Blk w sb (swCells ports most last owed mb) 50) (hm : IsMp w mb n f) (c x : Int) (hc : (Lit.int .i64 c).wf = true) (b : Nat) (hf : f c = some b) (hx : ¬ Side x) :
    Calls Try.prog 22 #[.pointer (some ⟨sb, 0, none⟩), .int .i64 c, .int .i64 x] w fun e w' => e = .returned (.tuple #[.pointer none, .int .i64 2500]) ∧ w = w' := by
  have c3 : w.cell? ⟨sb, 3, none⟩ = some (.map (some mb)) := hb.cell 3
  have hl := hm.look c hc
  rw [hf] at hl
  have hl' : (Instr.lookup 48 (.map (some mb)) (.int .i64 c) false).run Try.prog w = .ok (.pointer (some ⟨b, 0, none⟩)) w := hl
  have HX := Lib.hid hx
  clear hb hm hl hf hc hx
  go_enter Try.func22, Try.ntmps22
  go_wp2_with (go_at_call 21; refine (side_no _ _ HX.out).mono ?_; rintro e w' ⟨rfl, rfl⟩)
  go_ret2
  exact ⟨rfl, rfl⟩

set_option maxHeartbeats 400000 in
theorem open_0 {w : World} {sb mb n : Nat} {f : Int → Option Nat} {ports most last owed : Int} (hb : Blk w sb (swCells ports most last owed mb) 50) (hm : IsMp w mb n f) (c : Int) (hc : (Lit.int .i64 c).wf = true) (b : Nat) (hf : f c = some b) :
    Calls Try.prog 22 #[.pointer (some ⟨sb, 0, none⟩), .int .i64 c, .int .i64 0] w fun e w' => e = .returned (.tuple #[.pointer (some ⟨b, 0, none⟩), .int .i64 0]) ∧ w = w' := by
  have c3 : w.cell? ⟨sb, 3, none⟩ = some (.map (some mb)) := hb.cell 3
  have hl := hm.look c hc
  rw [hf] at hl
  have hl' : (Instr.lookup 48 (.map (some mb)) (.int .i64 c) false).run Try.prog w = .ok (.pointer (some ⟨b, 0, none⟩)) w := hl
  clear hb hm hl hf hc
  go_enter Try.func22, Try.ntmps22
  go_wp2_with (go_at_call 21; refine (side_yes _ _ (Or.inl rfl)).mono ?_; rintro e w' ⟨rfl, rfl⟩)
  go_ret2
  exact ⟨rfl, rfl⟩

set_option maxHeartbeats 400000 in
theorem open_1 {w : World} {sb mb n : Nat} {f : Int → Option Nat} {ports most last owed : Int} (hb : Blk w sb (swCells ports most last owed mb) 50) (hm : IsMp w mb n f) (c : Int) (hc : (Lit.int .i64 c).wf = true) (b : Nat) (hf : f c = some b) :
    Calls Try.prog 22 #[.pointer (some ⟨sb, 0, none⟩), .int .i64 c, .int .i64 1] w fun e w' => e = .returned (.tuple #[.pointer (some ⟨b, 3, none⟩), .int .i64 0]) ∧ w = w' := by
  have c3 : w.cell? ⟨sb, 3, none⟩ = some (.map (some mb)) := hb.cell 3
  have hl := hm.look c hc
  rw [hf] at hl
  have hl' : (Instr.lookup 48 (.map (some mb)) (.int .i64 c) false).run Try.prog w = .ok (.pointer (some ⟨b, 0, none⟩)) w := hl
  clear hb hm hl hf hc
  go_enter Try.func22, Try.ntmps22
  go_wp2_with (go_at_call 21; refine (side_yes _ _ (Or.inr rfl)).mono ?_; rintro e w' ⟨rfl, rfl⟩)
  go_ret2
  exact ⟨rfl, rfl⟩

theorem open_ok {w : World} {sb mb n : Nat} {f : Int → Option Nat} {ports most last owed : Int} (hb : Blk w sb (swCells ports most last owed mb) 50) (hm : IsMp w mb n f) (c : Int) (hc : (Lit.int .i64 c).wf = true) (b : Nat) (hf : f c = some b) (k : Nat) (hk : k < 2) :
    Calls Try.prog 22 #[.pointer (some ⟨sb, 0, none⟩), .int .i64 c, .int .i64 (k : Int)] w fun e w' => e = .returned (.tuple #[.pointer (some ⟨b, 3 * k, none⟩), .int .i64 0]) ∧ w = w' := by
  rcases k with _ | _ | k
  · exact open_0 hb hm c hc b hf
  · exact open_1 hb hm c hc b hf
  · omega

set_option maxHeartbeats 400000 in
theorem dial_form (sb : Nat) (x y : Int) (w : World) (hx : ¬ Side x ∨ y ≠ 1 - x) :
    Calls Try.prog 11 #[.pointer (some ⟨sb, 0, none⟩), .int .i64 x, .int .i64 y] w fun e w' => e = .returned (.tuple #[.int .i64 0, .int .i64 2500]) ∧ w = w' := by
  by_cases h : Side x
  · have hy : y ≠ 1 - x := hx.resolve_left (fun h' => h' h)
    have hw : 0 ≤ x ∧ x ≤ 1 := by rcases h with rfl | rfl <;> omega
    obtain ⟨w1, w2⟩ := hw
    have hne : (y != 1 - x) = true := by simpa using hy
    have HX := Lib.hid h
    clear hx hy h
    go_enter Try.func11, Try.ntmps11
    go_wp2_with (go_at_call 21; refine (side_yes _ _ HX.out).mono ?_; rintro e w' ⟨rfl, rfl⟩)
    go_ret2
    exact ⟨rfl, rfl⟩
  · have HX := Lib.hid h
    clear hx h
    go_enter Try.func11, Try.ntmps11
    go_wp2_with (go_at_call 21; refine (side_no _ _ HX.out).mono ?_; rintro e w' ⟨rfl, rfl⟩)
    go_ret2
    exact ⟨rfl, rfl⟩

set_option maxHeartbeats 400000 in
theorem dial_ports {w : World} {sb mb n : Nat} {f : Int → Option Nat} {ports most last owed : Int} (hb : Blk w sb (swCells ports most last owed mb) 50) (hm : IsMp w mb n f) (x y : Int) (hx : Side x) (hy : y = 1 - x) (hp : ports ≤ n) :
    Calls Try.prog 11 #[.pointer (some ⟨sb, 0, none⟩), .int .i64 x, .int .i64 y] w fun e w' => e = .returned (.tuple #[.int .i64 0, .int .i64 2501]) ∧ ∃ m, w' = w.drewN m := by
  have c3 : w.cell? ⟨sb, 3, none⟩ = some (.map (some mb)) := hb.cell 3
  have c0 : w.cell? ⟨sb, 0, none⟩ = some (.int .i64 ports) := hb.cell 0
  have hl := fun ty m => (hm.drewN m).len ty
  have hw : 0 ≤ x ∧ x ≤ 1 := by rcases hx with rfl | rfl <;> omega
  obtain ⟨w1, w2⟩ := hw
  have hne : (y != 1 - x) = false := by simpa using hy
  have HX := Lib.hid hx
  clear hx hy hb hm
  go_enter Try.func11, Try.ntmps11
  go_wp2_with (go_at_call 21; refine (side_yes _ _ HX.out).mono ?_; rintro e w' ⟨rfl, rfl⟩)
  go_quiet (fail)
  go_wp2
  go_ret2
  exact ⟨rfl, _, rfl⟩

set_option maxHeartbeats 400000 in
theorem dial_fails {w : World} {sb mb n : Nat} {f : Int → Option Nat} {ports most last owed : Int} (hb : Blk w sb (swCells ports most last owed mb) 50) (hm : IsMp w mb n f) (x y : Int) (hx : Side x) (hy : y = 1 - x) (hp : n < ports) (ho : 0 < owed) (ho2 : owed ≤ 9223372036854775807) :
    Calls Try.prog 11 #[.pointer (some ⟨sb, 0, none⟩), .int .i64 x, .int .i64 y] w fun e w' => e = .returned (.tuple #[.int .i64 0, .int .i64 2503]) ∧ Blk w' sb (swCells ports most last (owed - 1) mb) 50 ∧ Fr (fun k => k = sb) w w' := by
  have c3 : w.cell? ⟨sb, 3, none⟩ = some (.map (some mb)) := hb.cell 3
  have c0 : w.cell? ⟨sb, 0, none⟩ = some (.int .i64 ports) := hb.cell 0
  have c4 : w.cell? ⟨sb, 4, none⟩ = some (.int .i64 owed) := hb.cell 4
  have f4 := hb.frozen 4
  have hl := fun ty m => (hm.drewN m).len ty
  have hw : 0 ≤ x ∧ x ≤ 1 := by rcases hx with rfl | rfl <;> omega
  obtain ⟨w1, w2⟩ := hw
  have hne : (y != 1 - x) = false := by simpa using hy
  have HX := Lib.hid hx
  have HB := Lib.hid hb
  clear hx hy hb hm
  go_enter Try.func11, Try.ntmps11
  go_wp2_with (go_at_call 21; refine (side_yes _ _ HX.out).mono ?_; rintro e w' ⟨rfl, rfl⟩)
  go_quiet (fail)
  go_wp2
  go_ret2
  refine ⟨rfl, ?_, ((Fr.refl (fun k => k = sb) _).drewN _).setCell (Or.inr rfl) _⟩
  have := (HB.out.drewN nq).set 4 (.int .i64 (owed - 1))
  simpa [swCells] using this

/-- A new circuit's cells. -/
def newCirc : Array Value := #[.slice none 0 0, .int .i64 0, .int .i64 0, .slice none 0 0, .int .i64 0, .int .i64 0]

set_option maxHeartbeats 400000 in
theorem dial_ok {w : World} {sb mb n : Nat} {f : Int → Option Nat} {ports most last owed : Int} (hb : Blk w sb (swCells ports most last owed mb) 50) (hm : IsMp w mb n f) (hnb : mb ≠ sb) (x y : Int) (hx : Side x) (hy : y = 1 - x) (hp : n < ports) (hp2 : ports ≤ 1000) (ho : owed = 0) (hl1 : 0 ≤ last) (hl2 : last ≤ 1000000000) (hf : f (last + 1) = none) :
    Calls Try.prog 11 #[.pointer (some ⟨sb, 0, none⟩), .int .i64 x, .int .i64 y] w fun e w' => e = .returned (.tuple #[.int .i64 (last + 1), .int .i64 0]) ∧ Blk w' sb (swCells ports most (last + 1) owed mb) 50 ∧
      IsMp w' mb (n + 1) (setAt f (last + 1) (some w.heap.size)) ∧ Blk w' w.heap.size newCirc 58 ∧ Fr (fun k => k = sb ∨ k = mb) w w' := by
  subst ho
  have c3 : w.cell? ⟨sb, 3, none⟩ = some (.map (some mb)) := hb.cell 3
  have c0 : w.cell? ⟨sb, 0, none⟩ = some (.int .i64 ports) := hb.cell 0
  have c2 : w.cell? ⟨sb, 2, none⟩ = some (.int .i64 last) := hb.cell 2
  have c4 : w.cell? ⟨sb, 4, none⟩ = some (.int .i64 0) := hb.cell 4
  have f2 := hb.frozen 2
  have hl := fun ty m => (hm.drewN m).len ty
  have hw : 0 ≤ x ∧ x ≤ 1 := by rcases hx with rfl | rfl <;> omega
  obtain ⟨w1, w2⟩ := hw
  have hne : (y != 1 - x) = false := by simpa using hy
  have HX := Lib.hid hx
  have HB := Lib.hid hb
  have HM := Lib.hid hm
  have HF := Lib.hid hf
  have NE := Lib.hid hnb
  have WF : Hid ((Lit.int .i64 (last + 1)).wf = true) := Lib.hid (WalkArith.wf_i64 (by omega))
  clear hx hy hb hm hf hnb
  go_enter Try.func11, Try.ntmps11
  go_wp2_with (go_at_call 21; refine (side_yes _ _ HX.out).mono ?_; rintro e w' ⟨rfl, rfl⟩)
  go_quiet (fail)
  go_wp2
  have hW := (HB.out.drewN nq).set 2 (.int .i64 (last + 1))
  have hMW := (HM.out.drewN nq).keep ((Fr.refl (fun k => k = sb) (w.drewN nq)).setCell (p := ⟨sb, 2, none⟩) (Or.inr rfl) (.int .i64 (last + 1))) NE.out
  have hFW : Fr (fun k => k = sb) w ((w.drewN nq).setCell ⟨sb, 2, none⟩ (.int .i64 (last + 1))) := ((Fr.refl (fun k => k = sb) w).drewN nq).setCell (p := ⟨sb, 2, none⟩) (Or.inr rfl) (.int .i64 (last + 1))
  have hsz : ((w.drewN nq).setCell ⟨sb, 2, none⟩ (.int .i64 (last + 1))).heap.size = w.heap.size := by simp [World.setCell]
  have HSZ := Lib.hid hsz; clear hsz
  have HFW := Lib.hid hFW; clear hFW
  clear c0 c2 c3 c4 f2 hl
  generalize (w.drewN nq).setCell ⟨sb, 2, none⟩ (.int .i64 (last + 1)) = W at *
  have c3 : W.cell? ⟨sb, 3, none⟩ = some (.map (some mb)) := hW.cell 3
  have c2 : W.cell? ⟨sb, 2, none⟩ = some (.int .i64 (last + 1)) := (hW.cell 2).trans (by simp [swCells])
  obtain ⟨w'', hst, hm', hfr⟩ := (hMW.keep (((Fr.refl (fun _ => False) W).alloc (.cells newCirc 58)).drew) id).store (last + 1) WF.out HF.out (by unfold maxLen; omega) W.heap.size
  unfold newCirc at hst
  have hlt : sb < W.heap.size := hW.lt
  have HM' := Lib.hid hm'; clear hm'
  have HFR := Lib.hid hfr; clear hfr
  have HW := Lib.hid hW; clear hW
  have HMW := Lib.hid hMW; clear hMW
  have hN : Blk (W.alloc (.cells newCirc 58)) W.heap.size newCirc 58 := Blk.new _ _ _
  have hN2 := (hN.drew).keep HFR.out (fun e => by have := HMW.out.lt; omega)
  have hB2 := ((HW.out.alloc (.cells newCirc 58)).drew).keep HFR.out (fun e => NE.out e.symm)
  have c2' : w''.cell? ⟨sb, 2, none⟩ = some (.int .i64 (last + 1)) := (hB2.cell 2).trans (by simp [swCells])
  have HN2 := Lib.hid hN2
  have HB2 := Lib.hid hB2
  clear hN hN2 hB2
  go_region
  go_wp2_with fail
  go_ret2
  refine ⟨rfl, ?_, ?_, ?_, ?_⟩
  · have := HB2.out
    simpa [swCells] using this
  · rw [← HSZ.out]; exact HM'.out
  · rw [← HSZ.out]; exact HN2.out
  · have e1 : Fr (fun k => k = sb ∨ k = mb) w (W.alloc (.cells newCirc 58)).drew := ((HFW.out.mono (fun _ _ h => Or.inl h)).alloc _).drew
    exact e1.trans (HFR.out.mono (fun _ _ h => Or.inr h))

end Go.Proofs.Ytmbnifnhalgdgaa
