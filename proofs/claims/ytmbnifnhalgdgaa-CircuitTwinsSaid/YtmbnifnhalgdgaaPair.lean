/- The walk over CircuitTwins: it returns true. -/
import Derived.Test.YtmbnifnhalgdgaaActs
import Derived.Test.YtmbnifnhalgdgaaFails
import Derived.Deep.RegionHeld3
namespace Go.Proofs.Ytmbnifnhalgdgaa
open Go.RowKit

/-- Two switches that share nothing. -/
structure Two (w0 w : World) (oa ob : Owner) (sa sb : Nat) (S T : SwS) : Prop where
  a : IsSw w oa sa S
  b : IsSw w ob sb T
  ne : ∀ k r s, oa k = some r → ob k = some s → False
  la : ∀ k r, oa k = some r → w0.heap.size ≤ k
  lb : ∀ k r, ob k = some r → w0.heap.size ≤ k
  fr : Fr (fun _ => False) w0 w

theorem Two.symm {w0 w : World} {oa ob : Owner} {sa sb : Nat} {S T : SwS} (h : Two w0 w oa ob sa sb S T) : Two w0 w ob oa sb sa T S :=
  ⟨h.b, h.a, fun k r s h1 h2 => h.ne k s r h2 h1, h.lb, h.la, h.fr⟩

theorem IsSw.old {w : World} {own : Owner} {sb : Nat} {S : SwS} (h : IsSw w own sb S) : ∀ k r, own k = some r → k < w.heap.size := by
  obtain ⟨mb, f, h⟩ := h
  exact h.old

theorem IsSw.ok {w : World} {own : Owner} {sb : Nat} {S : SwS} (h : IsSw w own sb S) : S.Ok := by
  obtain ⟨mb, f, h⟩ := h
  exact h.ok

theorem Two.post {w0 w w' : World} {oa ob : Owner} {sa sb : Nat} {S S' T : SwS} (h : Two w0 w oa ob sa sb S T) (p : Post oa w sa S' w') :
    ∃ oa', Two w0 w' oa' ob sa sb S' T ∧ Grow oa oa' w.heap.size ∧ Fr (fun k => ∃ r, oa k = some r) w w' := by
  obtain ⟨oa', h1, h2, h3⟩ := p
  refine ⟨oa', ⟨h1, h.b.keep h3 (fun k s hk ⟨r, hr⟩ => h.ne k r s hr hk), fun k r s hr hs => ?_, fun k r hk => ?_, h.lb, ?_⟩, h2, h3⟩
  · rcases h2.new k r hr with h4 | h4
    · exact h.ne k r s h4 hs
    · have := h.b.old k s hs; omega
  · rcases h2.new k r hk with h4 | h4
    · exact h.la k r h4
    · exact Nat.le_trans h.fr.size h4
  · refine ⟨h3.os.trans h.fr.os, h3.tape.trans h.fr.tape, h3.output.trans h.fr.output, Nat.le_trans h.fr.size h3.size, fun i hi _ => ?_⟩
    refine (h3.block i (Nat.lt_of_lt_of_le hi h.fr.size) (fun ⟨r, hr⟩ => ?_)).trans (h.fr.block i hi id)
    have := h.la i r hr
    omega

def TwB (w0 w : World) (sa sb : Nat) (S T : SwS) : Prop := ∃ oa ob, Two w0 w oa ob sa sb S T

/-- .. and beside them a block of the call's own. -/
def TwX (w0 w : World) (sa sb : Nat) (S T : SwS) (g : Nat) (C : Array Value) : Prop :=
  ∃ oa ob, Two w0 w oa ob sa sb S T ∧ Blk w g C 46 ∧ oa g = none ∧ ob g = none

theorem TwX.drop {w0 w : World} {sa sb : Nat} {S T : SwS} {g : Nat} {C : Array Value} (h : TwX w0 w sa sb S T g C) : TwB w0 w sa sb S T := by
  obtain ⟨oa, ob, h, _⟩ := h
  exact ⟨oa, ob, h⟩

theorem TwB.same {w0 w : World} {sa sb : Nat} {S T : SwS} (h : TwB w0 w sa sb S T) : Fr (fun _ => False) w0 w := by
  obtain ⟨oa, ob, h⟩ := h
  exact h.fr

theorem TwB.oka {w0 w : World} {sa sb : Nat} {S T : SwS} (h : TwB w0 w sa sb S T) : S.Ok := by
  obtain ⟨oa, ob, h⟩ := h
  exact h.a.ok

theorem Two.keep {w0 w w' : World} {oa ob : Owner} {sa sb : Nat} {S T : SwS} (h : Two w0 w oa ob sa sb S T) (hf : Fr (fun _ => False) w w') : Two w0 w' oa ob sa sb S T :=
  ⟨h.a.keep hf (fun _ _ _ h => h), h.b.keep hf (fun _ _ _ h => h), h.ne, h.la, h.lb, h.fr.trans hf⟩

theorem TwB.box {w0 w : World} {sa sb : Nat} {S T : SwS} (h : TwB w0 w sa sb S T) (C : Array Value) : TwX w0 (w.alloc (.cells C 46)) sa sb S T w.heap.size C := by
  obtain ⟨oa, ob, h⟩ := h
  refine ⟨oa, ob, h.keep ((Fr.refl _ w).alloc _), Blk.new _ _ _, ?_, ?_⟩
  · cases e : oa w.heap.size with
    | none => rfl
    | some r => have := h.a.old _ _ e; omega
  · cases e : ob w.heap.size with
    | none => rfl
    | some r => have := h.b.old _ _ e; omega

theorem TwX.drewN {w0 w : World} {sa sb : Nat} {S T : SwS} {g : Nat} {C : Array Value} (n : Nat) (h : TwX w0 w sa sb S T g C) : TwX w0 (w.drewN n) sa sb S T g C := by
  obtain ⟨oa, ob, h, hb, h1, h2⟩ := h
  exact ⟨oa, ob, h.keep ((Fr.refl _ w).drewN n), hb.drewN n, h1, h2⟩

theorem TwX.symm {w0 w : World} {sa sb : Nat} {S T : SwS} {g : Nat} {C : Array Value} (h : TwX w0 w sa sb S T g C) : TwX w0 w sb sa T S g C := by
  obtain ⟨oa, ob, h, hb, h1, h2⟩ := h
  exact ⟨ob, oa, h.symm, hb, h2, h1⟩

/-- A call on the first of the two. -/
theorem TwX.a {w0 w : World} {sa sb : Nat} {S T : SwS} {g : Nat} {C : Array Value} (h : TwX w0 w sa sb S T g C) {f : FuncId} {args : Array Value} {v : Value} {S' : SwS}
    (call : ∀ own, IsSw w own sa S → Calls Try.prog f args w fun e w' => e = .returned v ∧ Post own w sa S' w') : Calls Try.prog f args w fun e w' => e = .returned v ∧ TwX w0 w' sa sb S' T g C := by
  obtain ⟨oa, ob, h, hb, h1, h2⟩ := h
  refine (call oa h.a).mono fun e w' ⟨he, hp⟩ => ⟨he, ?_⟩
  obtain ⟨oa', g1, g2, g3⟩ := h.post hp
  refine ⟨oa', ob, g1, hb.keep g3 (fun ⟨r, hr⟩ => by rw [h1] at hr; cases hr), ?_, h2⟩
  cases e : oa' g with
  | none => rfl
  | some r =>
    rcases g2.new g r e with h4 | h4
    · rw [h1] at h4; cases h4
    · have := hb.lt; omega

/-- .. on the second. -/
theorem TwX.b {w0 w : World} {sa sb : Nat} {S T : SwS} {g : Nat} {C : Array Value} (h : TwX w0 w sa sb S T g C) {f : FuncId} {args : Array Value} {v : Value} {T' : SwS}
    (call : ∀ own, IsSw w own sb T → Calls Try.prog f args w fun e w' => e = .returned v ∧ Post own w sb T' w') : Calls Try.prog f args w fun e w' => e = .returned v ∧ TwX w0 w' sa sb S T' g C :=
  (TwX.a h.symm call).mono fun _ _ ⟨he, hp⟩ => ⟨he, hp.symm⟩

theorem TwX.busyA {w0 w : World} {sa sb : Nat} {S T : SwS} {g : Nat} {C : Array Value} (h : TwX w0 w sa sb S T g C) (x : Int) (hx : Side x) :
    Calls Try.prog 13 #[.pointer (some ⟨sa, 0, none⟩), .int .i64 x] w fun e w' => e = .returned (.int .i64 (S.n : Int)) ∧ w = w' := by
  obtain ⟨oa, ob, h, hb, h1, h2⟩ := h
  exact sw_busy h.a x hx

theorem TwX.busyB {w0 w : World} {sa sb : Nat} {S T : SwS} {g : Nat} {C : Array Value} (h : TwX w0 w sa sb S T g C) (x : Int) (hx : Side x) :
    Calls Try.prog 13 #[.pointer (some ⟨sb, 0, none⟩), .int .i64 x] w fun e w' => e = .returned (.int .i64 (T.n : Int)) ∧ w = w' := TwX.busyA h.symm x hx

def actCells (z0 z1 z2 z3 : Int) (s : ByteArray) : Array Value := #[.int .i64 z0, .int .i64 z1, .int .i64 z2, .int .i64 z3, .string s]

theorem TwX.get {w0 w : World} {sa sb : Nat} {S T : SwS} {g : Nat} {z0 z1 z2 z3 : Int} {s : ByteArray} (h : TwX w0 w sa sb S T g (actCells z0 z1 z2 z3 s)) :
    w.cell? ⟨g, 0, none⟩ = some (.int .i64 z0) ∧ w.cell? ⟨g, 1, none⟩ = some (.int .i64 z1) ∧ w.cell? ⟨g, 2, none⟩ = some (.int .i64 z2) ∧ w.cell? ⟨g, 3, none⟩ = some (.int .i64 z3) ∧ w.cell? ⟨g, 4, none⟩ = some (.string s) := by
  obtain ⟨oa, ob, h, hb, h1, h2⟩ := h
  exact ⟨hb.cell 0, hb.cell 1, hb.cell 2, hb.cell 3, hb.cell 4⟩

theorem two_new (p m : Int) {w0 w : World} {sa : Nat} {S : SwS} (h : SwB w0 w sa S) (h1 : 1 ≤ p) (h2 : p ≤ 8) (h3 : 1 ≤ m) (h4 : m ≤ 65536) :
    Calls Try.prog 9 #[.int .i64 p, .int .i64 m] w fun e w' => ∃ sb, e = .returned (.tuple #[.pointer (some ⟨sb, 0, none⟩), .int .i64 0]) ∧ TwB w0 w' sa sb S (newS p m) := by
  obtain ⟨oa, k1, k2, k3⟩ := h
  refine (sw_new p m w h1 h2 h3 h4).mono fun e w' ⟨sb, ob, he, hi, hB, hs⟩ => ⟨sb, he, oa, ob, k1.keep hs (fun _ _ _ h => h), hi, fun k r s hr hsk => ?_, k2, fun k r hk => Nat.le_trans k3.size (hB k r hk), k3.trans hs⟩
  have := hB k s hsk
  have := k1.old k r hr
  omega

/-- A number that was never given is not up. -/
theorem hang_none {S : SwS} (h : S.Ok) (c : Int) (hc : S.last < c) : hangS S c = (2502, S) := by
  unfold hangS
  cases hu : S.up c with
  | none => rfl
  | some q =>
    have := (h.up c q hu).1.2
    omega

set_option maxRecDepth 100000 in
set_option maxHeartbeats 2000000 in
theorem twins_walk (a0 : Option Addr) (len0 cap0 : Nat) (w : World) (h0 : ActsIn w a0 len0 cap0) :
    Calls Try.prog 7 #[.slice a0 len0 cap0] w fun e w' => e = .returned (.bool true) ∧ Below w.heap.size w w' := by
  have H0 := Lib.hid h0; clear h0
  have HF0 := Lib.hid (Few.new 3 200)
  go_enter Try.func7, Try.ntmps7
  go_wp2_with fail
  refine (awake_ok _).mono ?_
  rintro e wa ⟨rfl, hs⟩
  have SA := Lib.hid hs; clear hs
  go_wp2_with fail
  refine (swb_new 3 200 _ (by omega) (by omega) (by omega) (by omega)).mono ?_
  rintro e wb ⟨sa, rfl, hq⟩
  have HB := Lib.hid (hq.trans SA.out); clear hq SA
  go_wp2_with fail
  refine (two_new 3 200 HB.out (by omega) (by omega) (by omega) (by omega)).mono ?_
  rintro e wc ⟨sb, rfl, hq⟩
  have HC := Lib.hid hq; clear hq HB
  go_wp2_with fail
  go_loopw [7] (fun i wr => ∃ (i' : Nat) (S : SwS), i' ≤ 60 ∧ i = .int .i64 i' ∧ S.Few (3 * i') ∧ TwB w wr sa sb S S) (fun i _ => 60 - (intOf i).toNat)
  case atStart => exact ⟨0, _, by omega, rfl, HF0.out, HC.out⟩
  case round =>
    obtain ⟨i, S, hi, rfl, hfew, htw⟩ := hrel
    clear HC HF0
    have HFW := Lib.hid hfew; clear hfew
    have HTW := Lib.hid htw; clear htw
    by_cases hlt : i < len0 ∧ i < 60
    · obtain ⟨hl1, hl2⟩ := hlt
      obtain ⟨b3, o3, z0, z1, z2, z3, s, rfl, d0, d1, d2, d3, d4, hw1, hw3, hsz⟩ := ActsIn.at H0.out i hl1
      have d0' := cell_keep d0 HTW.out.same id
      have d1' := cell_keep d1 HTW.out.same id
      have d2' := cell_keep d2 HTW.out.same id
      have d3' := cell_keep d3 HTW.out.same id
      have d4' := cell_keep d4 HTW.out.same id
      clear d0 d1 d2 d3 d4
      have HW1 := Lib.hid hw1; clear hw1
      have HW3 := Lib.hid hw3; clear hw3
      have HSZ := Lib.hid hsz; clear hsz
      have x0 : 0 ≤ z2 % 2 := by omega
      have x1 : z2 % 2 ≤ 1 := by omega
      obtain ⟨⟨⟨p, g1⟩, S1⟩, hr1⟩ : ∃ r, dialS S (z2 % 2) (1 - z2 % 2) = r := ⟨_, rfl⟩
      obtain ⟨⟨j, S2⟩, hr2⟩ : ∃ r, sendS S1 z1 z2 s.data.toList = r := ⟨_, rfl⟩
      obtain ⟨⟨⟨l, m⟩, S3⟩, hr3⟩ : ∃ r, readS S2 z1 z3 = r := ⟨_, rfl⟩
      obtain ⟨⟨hh, S4⟩, hr4⟩ : ∃ r, hangS S3 z1 = r := ⟨_, rfl⟩
      obtain ⟨sr, hsr⟩ : ∃ sr : ByteArray, (⟨l.toArray⟩ : ByteArray) = sr := ⟨_, rfl⟩
      have f1 := Few.dial HFW.out (z2 % 2) (1 - z2 % 2)
      rw [hr1] at f1
      have f2 := Few.send f1 z1 z2 s.data.toList
      rw [hr2] at f2
      have f3 := Few.read f2 z1 z3
      rw [hr3] at f3
      have f4 := Few.hang f3 z1
      rw [hr4] at f4
      have l0 : S.last ≤ 1000000000 := by have := HFW.out.1; omega
      have l1 : S1.last < 500 + (i : Int) := by have := f1.1; show S1.last < _; simp only at this; omega
      have R1 := Lib.hid hr1; clear hr1
      have R2 := Lib.hid hr2; clear hr2
      have R3 := Lib.hid hr3; clear hr3
      have R4 := Lib.hid hr4; clear hr4
      have HSR := Lib.hid hsr; clear hsr
      have FW1 := Lib.hid f1; clear f1
      have FW2 := Lib.hid f2; clear f2
      have FW3 := Lib.hid f3; clear f3
      have FW4 := Lib.hid f4; clear f4
      have L0 := Lib.hid l0; clear l0
      have L1 := Lib.hid l1; clear l1
      have hbx := HTW.out.box (actCells z0 z1 z2 z3 s)
      have hbx' : TwX w (wr.alloc (.cells #[.int .i64 z0, .int .i64 z1, .int .i64 z2, .int .i64 z3, .string s] 46)) sa sb S S wr.heap.size (actCells z0 z1 z2 z3 s) := hbx
      have HX := Lib.hid hbx'; clear hbx hbx'
      go_wp2_with fail
      refine (TwX.a HX.out (fun own h => sw_dial h L0.out _ _ _ R1.out)).mono ?_
      rintro e w1 ⟨rfl, hq⟩
      obtain ⟨k0, k1, k2, k3, k4⟩ := hq.get
      have H1 := Lib.hid hq; clear hq
      generalize wr.heap.size = g at *
      clear d0' d1' d2' d3' d4'
      go_wp2_with fail
      refine (TwX.b H1.out (fun own h => sw_dial h L0.out _ _ _ R1.out)).mono ?_
      rintro e w2 ⟨rfl, hq⟩
      clear k0 k1 k2 k3 k4
      obtain ⟨k0, k1, k2, k3, k4⟩ := hq.get
      have hok := hq.drop.oka
      have R5 := Lib.hid (hang_none hok _ L1.out); clear hok
      have H2 := Lib.hid hq; clear hq
      go_wp2_with fail
      refine (TwX.a H2.out (fun own h => sw_hang h _ (WalkArith.wf_i64 (by omega)) _ R5.out)).mono ?_
      rintro e w3 ⟨rfl, hq⟩
      clear k0 k1 k2 k3 k4
      obtain ⟨k0, k1, k2, k3, k4⟩ := hq.get
      have H3 := Lib.hid hq; clear hq
      go_wp2_with fail
      have tokA : True := trivial
      go_region_held3 (fun w' => w'.cell? ⟨g, 1, none⟩ = some (.int .i64 z1) ∧ w'.cell? ⟨g, 2, none⟩ = some (.int .i64 z2) ∧ w'.cell? ⟨g, 4, none⟩ = some (.string s))
        (first | exact ⟨k1, k2, k4⟩ | exact ⟨p1, p2, p4⟩ | exact ⟨q1, q2, q4⟩)
        (first
          | (have _t := tokA; go_at_call 14; refine (TwX.a (H3.out.drewN 1) (fun own h => sw_send h FW1.out (by omega) z1 HW1.out z2 s HSZ.out _ R2.out)).mono ?_; rintro e w4 ⟨rfl, hq⟩; obtain ⟨p0, p1, p2, p3, p4⟩ := hq.get; have H4 := Lib.hid hq; clear hq; clear tokA)
          | (go_at_call 14; refine (TwX.b H4.out (fun own h => sw_send h FW1.out (by omega) z1 HW1.out z2 s HSZ.out _ R2.out)).mono ?_; rintro e w5 ⟨rfl, hq⟩; obtain ⟨q0, q1, q2, q3, q4⟩ := hq.get; have H5 := Lib.hid hq; clear hq))
      clear k0 k1 k2 k3 k4 p0 p1 p2 p3 p4
      go_wp2_with fail
      refine (TwX.a H5.out (fun own h => sw_read h FW2.out (by omega) z1 HW1.out z3 HW3.out _ R3.out)).mono ?_
      rintro e w6 ⟨rfl, hq⟩
      clear q0 q1 q2 q3 q4
      obtain ⟨q0, q1, q2, q3, q4⟩ := hq.get
      have H6 := Lib.hid hq; clear hq
      rw [HSR.out]
      go_wp2_with fail
      refine (TwX.b H6.out (fun own h => sw_read h FW2.out (by omega) z1 HW1.out z3 HW3.out _ R3.out)).mono ?_
      rintro e w7 ⟨rfl, hq⟩
      clear q0 q1 q2 q3 q4
      obtain ⟨q0, q1, q2, q3, q4⟩ := hq.get
      have H7 := Lib.hid hq; clear hq
      rw [HSR.out]
      have tokB : True := trivial
      by_cases hz : z0 < 3
      · go_wp2_with fail
        refine (TwX.a H7.out (fun own h => sw_hang h z1 HW1.out _ R4.out)).mono ?_
        rintro e w8 ⟨rfl, hq⟩
        clear q0 q1 q2 q3 q4
        obtain ⟨q0, q1, q2, q3, q4⟩ := hq.get
        have H8 := Lib.hid hq; clear hq
        go_wp2_with fail
        refine (TwX.b H8.out (fun own h => sw_hang h z1 HW1.out _ R4.out)).mono ?_
        rintro e w9 ⟨rfl, hq⟩
        clear q0 q1 q2 q3 q4
        have H9 := Lib.hid hq; clear hq
        go_wp2_with (first | (go_at_call 12; refine (num_any _ _).mono ?_; rintro e w2 ⟨rfl, rfl⟩) | (have _t := tokB; go_at_call 13; refine (TwX.busyA H9.out 0 (Or.inl rfl)).mono ?_; rintro e w2 ⟨rfl, rfl⟩; clear tokB) | (go_at_call 13; refine (TwX.busyB H9.out 0 (Or.inl rfl)).mono ?_; rintro e w2 ⟨rfl, rfl⟩))
        go_roundw
        case rel => exact ⟨i + 1, S4, by omega, by go_num, Few.mono FW4.out (by omega), H9.out.drop⟩
        case measure => simp [intOf]; omega
      · go_wp2_with (first | (go_at_call 12; refine (num_any _ _).mono ?_; rintro e w2 ⟨rfl, rfl⟩) | (have _t := tokB; go_at_call 13; refine (TwX.busyA H7.out 0 (Or.inl rfl)).mono ?_; rintro e w2 ⟨rfl, rfl⟩; clear tokB) | (go_at_call 13; refine (TwX.busyB H7.out 0 (Or.inl rfl)).mono ?_; rintro e w2 ⟨rfl, rfl⟩))
        go_roundw
        case rel => exact ⟨i + 1, S3, by omega, by go_num, Few.mono FW3.out (by omega), H7.out.drop⟩
        case measure => simp [intOf]; omega
    · have hx : (¬ i < len0) ∨ (i < len0 ∧ ¬ i < 60) := by omega
      clear hlt
      rcases hx with hx | ⟨hx1, hx2⟩
      all_goals
        go_wp2_with (go_at_call 12; refine (num_any _ _).mono ?_; rintro e w2 ⟨rfl, rfl⟩)
        go_ret
        exact ⟨rfl, Same.below HTW.out.same⟩

end Go.Proofs.Ytmbnifnhalgdgaa
