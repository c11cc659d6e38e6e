/- The walk over CircuitApart: it returns true. -/
import Derived.Test.YtmbnifnhalgdgaaTurn
import Derived.Deep.CutBlock
namespace Go.Proofs.Ytmbnifnhalgdgaa
open Go.RowKit

theorem swb_lose {w0 w : World} {sb : Nat} {S : SwS} (h : SwB w0 w sb S) {K : Nat} (hF : S.Few K) (hK : K ≤ 1000000000) (c : Int) (hc : (Lit.int .i64 c).wf = true) (x : Int) (hx : Side x) (q : Pip × Pip) (hu : S.up c = some q) :
    Calls Try.prog 16 #[.pointer (some ⟨sb, 0, none⟩), .int .i64 c, .int .i64 x] w fun e w' => e = .returned (.int .i64 0) ∧ SwB w0 w' sb { S with up := setAt S.up c (some (setPip q x ⟨(getPip q x).ps, (getPip q x).lost + 1⟩)) } := by
  obtain ⟨own, h1, h2, h3⟩ := h
  exact (sw_lose h1 hF hK c hc x hx q hu).mono fun _ _ ⟨he, hp⟩ => ⟨he, SwB.post h3 h2 hp⟩

theorem swb_turn {w0 w : World} {sb : Nat} {S : SwS} (h : SwB w0 w sb S) (c : Int) (hc : (Lit.int .i64 c).wf = true) (x : Int) (hx : Side x) (q : Pip × Pip) (hu : S.up c = some q) (d : List UInt8) (hps : (getPip q x).ps = [d]) (bit : Int) (hb0 : 0 ≤ bit) (hb1 : bit ≤ 1000000000) :
    Calls Try.prog 17 #[.pointer (some ⟨sb, 0, none⟩), .int .i64 c, .int .i64 x, .int .i64 bit] w fun e w' => e = .returned (.int .i64 0) ∧ ∃ d', SwB w0 w' sb { S with up := setAt S.up c (some (setPip q x ⟨[d'], (getPip q x).lost⟩)) } := by
  obtain ⟨own, h1, h2, h3⟩ := h
  exact (sw_turn h1 c hc x hx q hu d hps bit hb0 hb1).mono fun _ _ ⟨he, d', hp⟩ => ⟨he, d', SwB.post h3 h2 hp⟩

theorem get_set {x : Int} (hx : Side x) (q : Pip × Pip) (p : Pip) : getPip (setPip q x p) x = p ∧ getPip (setPip q x p) (1 - x) = getPip q (1 - x) := by
  rcases hx with rfl | rfl
  · exact ⟨rfl, rfl⟩
  · exact ⟨rfl, rfl⟩

theorem side_not {x : Int} (hx : Side x) : Side (1 - x) ∧ 1 - (1 - x) = x := by
  rcases hx with rfl | rfl
  · exact ⟨Or.inr rfl, rfl⟩
  · exact ⟨Or.inl rfl, rfl⟩

def P0 : Pip := ⟨[], 0⟩

/-- Two circuits, the one with a piece, the other with a piece. -/
def S2 : SwS := (dialS (dialS (newS 3 4096) 0 1).2 1 0).2
theorem s1 : dialS (newS 3 4096) 0 1 = ((1, 0), (dialS (newS 3 4096) 0 1).2) := rfl
theorem s2 : dialS (dialS (newS 3 4096) 0 1).2 1 0 = ((2, 0), S2) := rfl
theorem few2 : S2.Few 2 := Few.dial (Few.dial (Few.new 3 4096) 0 1) 1 0

/-- What is held: one piece A of circuit 1, one piece B of circuit 2. -/
structure ApA (k : Int) (A B : List UInt8) (S : SwS) : Prop where
  most : S.most = 4096
  one : ∃ q, S.up 1 = some q ∧ getPip q k = ⟨[A], 0⟩
  two : ∃ q, S.up 2 = some q ∧ getPip q k = ⟨[B], 0⟩ ∧ getPip q (1 - k) = P0
  few : S.Few 4

/-- The other circuit is what it was; the one is up, or not. -/
structure ApB (k : Int) (B : List UInt8) (u : Bool) (S : SwS) : Prop where
  one : (S.up 1).isSome = u
  two : ∃ q, S.up 2 = some q ∧ getPip q k = ⟨[B], 0⟩ ∧ getPip q (1 - k) = P0
  few : S.Few 5

theorem send_first (k : Int) (hk : Side k) (A : List UInt8) (hA : A.length ≤ 1000) :
    sendS S2 1 k A = (0, { S2 with up := setAt S2.up 1 (some (setPip (P0, P0) k ⟨[A], 0⟩)) }) := by
  have hu : S2.up 1 = some (P0, P0) := rfl
  have hg : getPip (P0, P0) k = P0 := by unfold getPip; split <;> rfl
  unfold sendS
  rw [hu]
  simp only
  rw [if_pos hk, hg, if_neg, if_neg]
  · rfl
  · show ¬ (0 : Int) < 0; omega
  · show ¬ (4096 : Int) - ((0 : Nat) : Int) < (A.length : Int); omega

theorem send_second (k : Int) (hk : Side k) (A B : List UInt8) (hB : B.length ≤ 1000) : ∃ S4,
    sendS { S2 with up := setAt S2.up 1 (some (setPip (P0, P0) k ⟨[A], 0⟩)) } 2 k B = (0, S4) ∧ ApA k A B S4 := by
  have hu : setAt S2.up 1 (some (setPip (P0, P0) k ⟨[A], 0⟩)) 2 = some (P0, P0) := by rw [setAt_other _ _ _ _ (by decide)]; rfl
  have hg : getPip (P0, P0) k = P0 := by unfold getPip; split <;> rfl
  have hg' : getPip (P0, P0) (1 - k) = P0 := by unfold getPip; split <;> rfl
  have hs := get_set hk (P0, P0) ⟨[A], 0⟩
  have hs2 := get_set hk (P0, P0) ⟨[B], 0⟩
  have hfew3 : ({ S2 with up := setAt S2.up 1 (some (setPip (P0, P0) k ⟨[A], 0⟩)) } : SwS).Few 3 :=
    Few.set (Few.mono few2 (by omega)) 1 _ (few_setPip ⟨⟨Nat.zero_le _, by show (0 : Int) ≤ _; omega⟩, ⟨Nat.zero_le _, by show (0 : Int) ≤ _; omega⟩⟩ k _ ⟨by show (1 : Nat) ≤ 3; omega, by show (0 : Int) ≤ _; omega⟩)
  refine ⟨{ S2 with up := setAt (setAt S2.up 1 (some (setPip (P0, P0) k ⟨[A], 0⟩))) 2 (some (setPip (P0, P0) k ⟨[B], 0⟩)) }, ?_, rfl, ⟨setPip (P0, P0) k ⟨[A], 0⟩, ?_, hs.1⟩, ⟨setPip (P0, P0) k ⟨[B], 0⟩, setAt_same (setAt S2.up 1 (some (setPip (P0, P0) k ⟨[A], 0⟩))) 2 _, hs2.1, hs2.2.trans hg'⟩, ?_⟩
  · unfold sendS
    simp only
    rw [hu]
    simp only
    rw [if_pos hk, hg, if_neg, if_neg]
    · rfl
    · show ¬ (0 : Int) < 0; omega
    · show ¬ (4096 : Int) - ((0 : Nat) : Int) < (B.length : Int); omega
  · show setAt (setAt S2.up 1 (some (setPip (P0, P0) k ⟨[A], 0⟩))) 2 (some (setPip (P0, P0) k ⟨[B], 0⟩)) 1 = _
    rw [setAt_other _ _ _ _ (by decide), setAt_same]
  · exact Few.set (S := { S2 with up := setAt S2.up 1 (some (setPip (P0, P0) k ⟨[A], 0⟩)) }) (Few.mono hfew3 (by omega)) 2 _ (few_setPip ⟨⟨Nat.zero_le _, by show (0 : Int) ≤ _; omega⟩, ⟨Nat.zero_le _, by show (0 : Int) ≤ _; omega⟩⟩ k _ ⟨by show (1 : Nat) ≤ 4; omega, by show (0 : Int) ≤ _; omega⟩)

theorem ApA.cut {k : Int} {A B : List UInt8} {S : SwS} (h : ApA k A B S) : ∃ S', hangS S 1 = (0, S') ∧ ApB k B false S' := by
  obtain ⟨q, hq, _⟩ := h.one
  refine ⟨{ S with n := S.n - 1, up := setAt S.up 1 none }, ?_, ?_, ?_, ?_⟩
  · unfold hangS; rw [hq]
  · show (setAt S.up 1 none 1).isSome = false
    rw [setAt_same]; rfl
  · obtain ⟨q2, h2, h3⟩ := h.two
    exact ⟨q2, by show setAt S.up 1 none 2 = _; rw [setAt_other _ _ _ _ (by decide)]; exact h2, h3⟩
  · have := Few.hang h.few 1
    unfold hangS at this
    rw [hq] at this
    exact Few.mono this (by omega)

/-- Whatever is done to the one's pipes. -/
theorem ApA.pipe {k : Int} {A B : List UInt8} {S : SwS} (h : ApA k A B S) (q : Pip × Pip) (hq : S.up 1 = some q) (x : Int) (p : Pip) (hp : p.ps.length ≤ 5 ∧ p.lost ≤ 5) : ApB k B true { S with up := setAt S.up 1 (some (setPip q x p)) } := by
  refine ⟨?_, ?_, ?_⟩
  · show (setAt S.up 1 (some (setPip q x p)) 1).isSome = true
    rw [setAt_same]; rfl
  · obtain ⟨q2, h2, h3⟩ := h.two
    exact ⟨q2, by show setAt S.up 1 (some (setPip q x p)) 2 = some q2; rw [setAt_other _ _ _ _ (by decide)]; exact h2, h3⟩
  · have hf := h.few.2 1 q hq
    exact Few.set (Few.mono h.few (by omega)) 1 _ (few_setPip ⟨⟨by omega, by omega⟩, ⟨by omega, by omega⟩⟩ x p hp)

theorem ApA.read {k : Int} {A B : List UInt8} {S : SwS} (hk : Side k) (h : ApA k A B S) : ∃ S', readS S 1 (1 - k) = (([A].flatten, 0), S') ∧ ApB k B true S' := by
  obtain ⟨q, hq, hg⟩ := h.one
  obtain ⟨hs, hn⟩ := side_not hk
  refine ⟨{ S with up := setAt S.up 1 (some (setPip q (1 - (1 - k)) ⟨[], (getPip q (1 - (1 - k))).lost⟩)) }, ?_, ?_⟩
  · unfold readS
    rw [hq]
    simp only
    rw [if_pos hs, hn, hg]
  · refine h.pipe q hq _ _ ⟨Nat.zero_le _, ?_⟩
    rw [hn, hg]
    show (0 : Int) ≤ 5; omega

theorem ApB.read {k : Int} {B : List UInt8} {u : Bool} {S : SwS} (hk : Side k) (h : ApB k B u S) :
    ∃ S6 S7, readS S 2 (1 - k) = ((B, 0), S6) ∧ S6.Few 5 ∧ readS S6 2 k = (([], 0), S7) ∧ (S7.up 2).isSome = true ∧ (S7.up 1).isSome = u := by
  obtain ⟨q, hq, hg, hg2⟩ := h.two
  obtain ⟨hs, hn⟩ := side_not hk
  have hr := Few.read h.few 2 (1 - k)
  have e6 : readS S 2 (1 - k) = ((B, 0), { S with up := setAt S.up 2 (some (setPip q k ⟨[], 0⟩)) }) := by
    unfold readS
    rw [hq]
    simp only
    rw [if_pos hs, hn, hg]
    simp
  rw [e6] at hr
  have hgs := get_set hk q ⟨[], 0⟩
  refine ⟨_, { S with up := setAt (setAt S.up 2 (some (setPip q k ⟨[], 0⟩))) 2 (some (setPip (setPip q k ⟨[], 0⟩) (1 - k) ⟨[], 0⟩)) }, e6, hr, ?_, ?_, ?_⟩
  · unfold readS
    simp only
    rw [setAt_same]
    simp only
    rw [if_pos hk, hgs.2, hg2]
    rfl
  · show (setAt (setAt S.up 2 (some (setPip q k ⟨[], 0⟩))) 2 (some (setPip (setPip q k ⟨[], 0⟩) (1 - k) ⟨[], 0⟩)) 2).isSome = true
    rw [setAt_same]; rfl
  · show (setAt (setAt S.up 2 (some (setPip q k ⟨[], 0⟩))) 2 (some (setPip (setPip q k ⟨[], 0⟩) (1 - k) ⟨[], 0⟩)) 1).isSome = u
    rw [setAt_other _ _ _ _ (by decide), setAt_other _ _ _ _ (by decide)]
    exact h.one

theorem wf2 : (Lit.int .i64 2).wf = true := by decide

theorem whole (b : ByteArray) : (⟨b.data.toList.toArray⟩ : ByteArray) = b := by cases b; simp

/-- All that follows the switch. -/
theorem apart_end {w0 w : World} {sb : Nat} {k : Int} {u : Bool} {b : ByteArray} {S : SwS} (hk : Side k) (h : ApB k b.data.toList u S) (hw : SwB w0 w sb S) :
    ∃ S6 S7, (Calls Try.prog 18 #[.pointer (some ⟨sb, 0, none⟩), .int .i64 2, .int .i64 (1 - k)] w fun e w' => e = .returned (.tuple #[.string b, .int .i64 0]) ∧ SwB w0 w' sb S6) ∧
      (∀ w1, SwB w0 w1 sb S6 → Calls Try.prog 18 #[.pointer (some ⟨sb, 0, none⟩), .int .i64 2, .int .i64 k] w1 fun e w' => e = .returned (.tuple #[.string ⟨#[]⟩, .int .i64 0]) ∧ SwB w0 w' sb S7) ∧
      (∀ w1, SwB w0 w1 sb S7 → (Calls Try.prog 19 #[.pointer (some ⟨sb, 0, none⟩), .int .i64 2] w1 fun e w' => e = .returned (.bool true) ∧ w1 = w') ∧ Calls Try.prog 19 #[.pointer (some ⟨sb, 0, none⟩), .int .i64 1] w1 fun e w' => e = .returned (.bool u) ∧ w1 = w') := by
  obtain ⟨S6, S7, h1, h2, h3, h4, h5⟩ := h.read hk
  have k0 : (Lit.int .i64 k).wf = true := by rcases hk with rfl | rfl <;> decide
  have k1 : (Lit.int .i64 (1 - k)).wf = true := by rcases hk with rfl | rfl <;> decide
  refine ⟨S6, S7, ?_, fun w1 hw1 => ?_, fun w1 hw1 => ⟨?_, ?_⟩⟩
  · have := swb_read hw h.few (by omega) 2 wf2 (1 - k) k1 _ h1
    rw [whole] at this
    exact this
  · exact swb_read hw1 h2 (by omega) 2 wf2 k k0 _ h3
  · exact swb_up hw1 2 wf2 true h4
  · exact swb_up hw1 1 wf1 u h5

set_option maxRecDepth 100000 in
set_option maxHeartbeats 2000000 in
theorem apart_walk (a0 a1 : ByteArray) (a2 a3 : Int) (h0 : a0.size ≤ maxLen) (h1 : a1.size ≤ maxLen) (_ : (Lit.int .i64 a2).wf = true) (_ : (Lit.int .i64 a3).wf = true) (w : World) :
    Calls Try.prog 4 #[.string a0, .string a1, .int .i64 a2, .int .i64 a3] w fun e w' => e = .returned (.bool true) ∧ Below w.heap.size w w' := by
  have HM0 := Lib.hid h0
  have HM1 := Lib.hid h1
  unfold maxLen at h0 h1
  by_cases hbig : 1000 < a0.size ∨ 1000 < a1.size
  · have hx : 1000 < a0.size ∨ (a0.size ≤ 1000 ∧ 1000 < a1.size) := by omega
    clear hbig
    rcases hx with hx | ⟨hx1, hx2⟩
    all_goals
      go_enter Try.func4, Try.ntmps4
      go_wp2_with fail
      refine (awake_ok _).mono ?_
      rintro e wa ⟨rfl, hs⟩
      have SA := Lib.hid hs; clear hs
      go_wp2_with fail
      go_ret
      exact ⟨rfl, Same.below SA.out⟩
  · have s0 : a0.size ≤ 1000 := by omega
    have s1' : a1.size ≤ 1000 := by omega
    clear hbig
    have x0 : 0 ≤ a2 % 2 := by omega
    have x1 : a2 % 2 ≤ 1 := by omega
    have y0 : 0 ≤ a3 % 64 := by omega
    have y1 : a3 % 64 ≤ 63 := by omega
    have hside : Side (a2 % 2) := by unfold Side; omega
    have HX := Lib.hid hside
    have hr3 := send_first (a2 % 2) hside a0.data.toList (by rw [size_toList]; exact s0)
    obtain ⟨S4, hr4, hap⟩ := send_second (a2 % 2) hside a0.data.toList a1.data.toList (by rw [size_toList]; exact s1')
    have hfew3 := Few.send few2 1 (a2 % 2) a0.data.toList
    rw [hr3] at hfew3
    have R3 := Lib.hid hr3; clear hr3
    have R4 := Lib.hid hr4; clear hr4
    have AP := Lib.hid hap; clear hap
    have F3 := Lib.hid hfew3; clear hfew3 hside
    have L0 := Lib.hid (show (newS 3 4096).last ≤ 1000000000 from by decide)
    have L1 := Lib.hid (show (dialS (newS 3 4096) 0 1).2.last ≤ 1000000000 from by decide)
    go_enter Try.func4, Try.ntmps4
    go_wp2_with fail
    refine (awake_ok _).mono ?_
    rintro e wa ⟨rfl, hs⟩
    have SA := Lib.hid hs; clear hs
    go_wp2_with fail
    refine (swb_new 3 4096 _ (by omega) (by omega) (by omega) (by omega)).mono ?_
    rintro e wb ⟨sb, rfl, hq⟩
    have HB := Lib.hid (hq.trans SA.out); clear hq SA
    go_wp2_with fail
    refine (swb_dial HB.out L0.out 0 1 _ s1).mono ?_
    rintro e wc ⟨rfl, hq⟩
    have HC := Lib.hid hq; clear hq HB
    go_wp2_with fail
    refine (swb_dial HC.out L1.out 1 0 _ s2).mono ?_
    rintro e wd ⟨rfl, hq⟩
    have HD := Lib.hid hq; clear hq HC
    go_wp2_with fail
    refine (swb_send HD.out few2 (by omega) 1 wf1 (a2 % 2) a0 HM0.out _ R3.out).mono ?_
    rintro e we ⟨rfl, hq⟩
    have HE := Lib.hid hq; clear hq HD
    go_wp2_with fail
    refine (swb_send HE.out F3.out (by omega) 2 wf2 (a2 % 2) a1 HM1.out _ R4.out).mono ?_
    rintro e wf ⟨rfl, hq⟩
    have HF := Lib.hid hq; clear hq HE
    have tokB : True := trivial
    obtain ⟨q1, hq1, hg1⟩ := AP.out.one
    have Q1 := Lib.hid (And.intro hq1 hg1); clear hq1 hg1
    have hwk : (Lit.int .i64 (1 - a2 % 2)).wf = true := WalkArith.wf_i64 (by omega)
    have WK := Lib.hid hwk; clear hwk
    by_cases z0 : a3 % 4 = 0
    · obtain ⟨S5, hr5, hb5⟩ := AP.out.cut
      have R5 := Lib.hid hr5; clear hr5
      have B5 := Lib.hid hb5; clear hb5
      go_wp2_with fail
      refine (swb_cut HF.out 1 wf1 _ R5.out).mono ?_
      rintro e wg ⟨rfl, hq⟩
      have HG := Lib.hid hq; clear hq
      obtain ⟨S6, S7, c6, c7, c8⟩ := apart_end HX.out B5.out HG.out
      have C6 := Lib.hid c6; clear c6
      have C7 := Lib.hid c7; clear c7
      have C8 := Lib.hid c8; clear c8
      go_wp2_with fail
      refine C6.out.mono ?_
      rintro e wh ⟨rfl, hq⟩
      have HH := Lib.hid hq; clear hq
      go_wp2_with fail
      refine (C7.out _ HH.out).mono ?_
      rintro e wi ⟨rfl, hq⟩
      have HI := Lib.hid hq; clear hq
      go_wp2_with (first | (go_at_call 12; refine (num_any _ _).mono ?_; rintro e w2 ⟨rfl, rfl⟩) | (have _t := tokB; go_at_call 19; refine (C8.out _ HI.out).1.mono ?_; rintro e w2 ⟨rfl, rfl⟩; clear tokB) | (go_at_call 19; refine (C8.out _ HI.out).2.mono ?_; rintro e w2 ⟨rfl, rfl⟩))
      go_ret
      exact ⟨rfl, Same.below HI.out.same⟩
    · by_cases z1 : a3 % 4 = 1
      · have hb5 := AP.out.pipe q1 Q1.out.1 (a2 % 2) ⟨(getPip q1 (a2 % 2)).ps, (getPip q1 (a2 % 2)).lost + 1⟩ (by rw [Q1.out.2]; exact ⟨by show (1 : Nat) ≤ 5; omega, by show (0 : Int) + 1 ≤ 5; omega⟩)
        have B5 := Lib.hid hb5; clear hb5
        go_wp2_with fail
        refine (swb_lose HF.out AP.out.few (by omega) 1 wf1 (a2 % 2) HX.out q1 Q1.out.1).mono ?_
        rintro e wg ⟨rfl, hq⟩
        have HG := Lib.hid hq; clear hq
        obtain ⟨S6, S7, c6, c7, c8⟩ := apart_end HX.out B5.out HG.out
        have C6 := Lib.hid c6; clear c6
        have C7 := Lib.hid c7; clear c7
        have C8 := Lib.hid c8; clear c8
        go_wp2_with fail
        refine C6.out.mono ?_
        rintro e wh ⟨rfl, hq⟩
        have HH := Lib.hid hq; clear hq
        go_wp2_with fail
        refine (C7.out _ HH.out).mono ?_
        rintro e wi ⟨rfl, hq⟩
        have HI := Lib.hid hq; clear hq
        go_wp2_with (first | (go_at_call 12; refine (num_any _ _).mono ?_; rintro e w2 ⟨rfl, rfl⟩) | (have _t := tokB; go_at_call 19; refine (C8.out _ HI.out).1.mono ?_; rintro e w2 ⟨rfl, rfl⟩; clear tokB) | (go_at_call 19; refine (C8.out _ HI.out).2.mono ?_; rintro e w2 ⟨rfl, rfl⟩))
        go_ret
        exact ⟨rfl, Same.below HI.out.same⟩
      · by_cases z2 : a3 % 4 = 2
        · go_wp2_with fail
          refine (swb_turn HF.out 1 wf1 (a2 % 2) HX.out q1 Q1.out.1 a0.data.toList (by rw [Q1.out.2]) (a3 % 64) y0 (by omega)).mono ?_
          rintro e wg ⟨rfl, d', hq⟩
          have HG := Lib.hid hq; clear hq
          have hb5 := AP.out.pipe q1 Q1.out.1 (a2 % 2) ⟨[d'], (getPip q1 (a2 % 2)).lost⟩ (by rw [Q1.out.2]; exact ⟨by show (1 : Nat) ≤ 5; omega, by show (0 : Int) ≤ 5; omega⟩)
          have B5 := Lib.hid hb5; clear hb5
          obtain ⟨S6, S7, c6, c7, c8⟩ := apart_end HX.out B5.out HG.out
          have C6 := Lib.hid c6; clear c6
          have C7 := Lib.hid c7; clear c7
          have C8 := Lib.hid c8; clear c8
          go_wp2_with fail
          refine C6.out.mono ?_
          rintro e wh ⟨rfl, hq⟩
          have HH := Lib.hid hq; clear hq
          go_wp2_with fail
          refine (C7.out _ HH.out).mono ?_
          rintro e wi ⟨rfl, hq⟩
          have HI := Lib.hid hq; clear hq
          go_wp2_with (first | (go_at_call 12; refine (num_any _ _).mono ?_; rintro e w2 ⟨rfl, rfl⟩) | (have _t := tokB; go_at_call 19; refine (C8.out _ HI.out).1.mono ?_; rintro e w2 ⟨rfl, rfl⟩; clear tokB) | (go_at_call 19; refine (C8.out _ HI.out).2.mono ?_; rintro e w2 ⟨rfl, rfl⟩))
          go_ret
          exact ⟨rfl, Same.below HI.out.same⟩
        · obtain ⟨S5, hr5, hb5⟩ := AP.out.read HX.out
          have R5 := Lib.hid hr5; clear hr5
          have B5 := Lib.hid hb5; clear hb5
          go_wp2_with fail
          refine (swb_read HF.out AP.out.few (by omega) 1 wf1 (1 - a2 % 2) WK.out _ R5.out).mono ?_
          rintro e wg ⟨rfl, hq⟩
          have HG := Lib.hid hq; clear hq
          obtain ⟨S6, S7, c6, c7, c8⟩ := apart_end HX.out B5.out HG.out
          have C6 := Lib.hid c6; clear c6
          have C7 := Lib.hid c7; clear c7
          have C8 := Lib.hid c8; clear c8
          go_wp2_with fail
          refine C6.out.mono ?_
          rintro e wh ⟨rfl, hq⟩
          have HH := Lib.hid hq; clear hq
          go_wp2_with fail
          refine (C7.out _ HH.out).mono ?_
          rintro e wi ⟨rfl, hq⟩
          have HI := Lib.hid hq; clear hq
          go_wp2_with (first | (go_at_call 12; refine (num_any _ _).mono ?_; rintro e w2 ⟨rfl, rfl⟩) | (have _t := tokB; go_at_call 19; refine (C8.out _ HI.out).1.mono ?_; rintro e w2 ⟨rfl, rfl⟩; clear tokB) | (go_at_call 19; refine (C8.out _ HI.out).2.mono ?_; rintro e w2 ⟨rfl, rfl⟩))
          go_ret
          exact ⟨(show Ending.returned (Value.bool (a3 % 4 != 0)) = Ending.returned (Value.bool true) from ret_bool (by simpa using z0)), Same.below HI.out.same⟩

end Go.Proofs.Ytmbnifnhalgdgaa
