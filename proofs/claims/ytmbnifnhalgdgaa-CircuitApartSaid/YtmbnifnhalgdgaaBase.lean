/- The walk over awake of chapter 25, and small facts for the laws. -/
import Derived.Test.YtmbnifnhalgdgaaPipes
import Derived.OpenShut
import Derived.Deep.RegionWith
namespace Go.Proofs.Ytmbnifnhalgdgaa
open Go.RowKit

/-- A switch of the call's own: all of its blocks are new since w0, and nothing of w0 has turned. -/
def SwB (w0 w : World) (sb : Nat) (S : SwS) : Prop :=
  ∃ own, IsSw w own sb S ∧ (∀ k r, own k = some r → w0.heap.size ≤ k) ∧ Fr (fun _ => False) w0 w

theorem SwB.post {w0 w w' : World} {own : Owner} {sb : Nat} {S : SwS} (hs : Fr (fun _ => False) w0 w) (hB : ∀ k r, own k = some r → w0.heap.size ≤ k) (h : Post own w sb S w') : SwB w0 w' sb S := by
  obtain ⟨own', h1, h2, h3⟩ := h
  refine ⟨own', h1, fun k r hk => ?_, ⟨h3.os.trans hs.os, h3.tape.trans hs.tape, h3.output.trans hs.output, Nat.le_trans hs.size h3.size, fun i hi _ => ?_⟩⟩
  · rcases h2.new k r hk with h | h
    · exact hB k r h
    · exact Nat.le_trans hs.size h
  · refine (h3.block i (Nat.lt_of_lt_of_le hi hs.size) (fun ⟨r, hr⟩ => ?_)).trans (hs.block i hi id)
    have := hB i r hr
    omega

theorem SwB.drewN {w0 w : World} {sb : Nat} {S : SwS} (n : Nat) (h : SwB w0 w sb S) : SwB w0 (w.drewN n) sb S := by
  obtain ⟨own, h1, h2, h3⟩ := h
  exact ⟨own, h1.keep ((Fr.refl (fun _ => False) w).drewN n) (fun _ _ _ h => h), h2, h3.drewN n⟩

theorem SwB.same {w0 w : World} {sb : Nat} {S : SwS} (h : SwB w0 w sb S) : Fr (fun _ => False) w0 w := by
  obtain ⟨own, h1, h2, h3⟩ := h
  exact h3

theorem SwB.trans {wa w0 w : World} {sb : Nat} {S : SwS} (h : SwB w0 w sb S) (hs : Fr (fun _ => False) wa w0) : SwB wa w sb S := by
  obtain ⟨own, h1, h2, h3⟩ := h
  exact ⟨own, h1, fun k r hk => Nat.le_trans hs.size (h2 k r hk), hs.trans h3⟩

theorem swb_new (p m : Int) (w : World) (h1 : 1 ≤ p) (h2 : p ≤ 8) (h3 : 1 ≤ m) (h4 : m ≤ 65536) :
    Calls Try.prog 9 #[.int .i64 p, .int .i64 m] w fun e w' => ∃ sb, e = .returned (.tuple #[.pointer (some ⟨sb, 0, none⟩), .int .i64 0]) ∧ SwB w w' sb (newS p m) :=
  (sw_new p m w h1 h2 h3 h4).mono fun _ _ ⟨sb, own, he, hi, hB, hs⟩ => ⟨sb, he, own, hi, hB, hs⟩

theorem swb_dial {w0 w : World} {sb : Nat} {S : SwS} (h : SwB w0 w sb S) (hK : S.last ≤ 1000000000) (x y : Int) (r : (Int × Int) × SwS) (hr : dialS S x y = r) :
    Calls Try.prog 11 #[.pointer (some ⟨sb, 0, none⟩), .int .i64 x, .int .i64 y] w fun e w' => e = .returned (.tuple #[.int .i64 r.1.1, .int .i64 r.1.2]) ∧ SwB w0 w' sb r.2 := by
  obtain ⟨own, h1, h2, h3⟩ := h
  exact (sw_dial h1 hK x y r hr).mono fun _ _ ⟨he, hp⟩ => ⟨he, SwB.post h3 h2 hp⟩

theorem swb_hang {w0 w : World} {sb : Nat} {S : SwS} (h : SwB w0 w sb S) (c : Int) (hc : (Lit.int .i64 c).wf = true) (r : Int × SwS) (hr : hangS S c = r) :
    Calls Try.prog 20 #[.pointer (some ⟨sb, 0, none⟩), .int .i64 c] w fun e w' => e = .returned (.int .i64 r.1) ∧ SwB w0 w' sb r.2 := by
  obtain ⟨own, h1, h2, h3⟩ := h
  exact (sw_hang h1 c hc r hr).mono fun _ _ ⟨he, hp⟩ => ⟨he, SwB.post h3 h2 hp⟩

theorem swb_cut {w0 w : World} {sb : Nat} {S : SwS} (h : SwB w0 w sb S) (c : Int) (hc : (Lit.int .i64 c).wf = true) (r : Int × SwS) (hr : hangS S c = r) :
    Calls Try.prog 15 #[.pointer (some ⟨sb, 0, none⟩), .int .i64 c] w fun e w' => e = .returned (.int .i64 r.1) ∧ SwB w0 w' sb r.2 := by
  obtain ⟨own, h1, h2, h3⟩ := h
  exact (sw_cut h1 c hc r hr).mono fun _ _ ⟨he, hp⟩ => ⟨he, SwB.post h3 h2 hp⟩

theorem swb_fail {w0 w : World} {sb : Nat} {S : SwS} (h : SwB w0 w sb S) (x : Int) (h0 : 0 ≤ x) (h1 : x ≤ 9223372036854775807) :
    Calls Try.prog 10 #[.pointer (some ⟨sb, 0, none⟩), .int .i64 x] w fun e w' => e = .returned (.int .i64 0) ∧ SwB w0 w' sb { S with owed := x } := by
  obtain ⟨own, k1, k2, k3⟩ := h
  exact (sw_fail k1 x h0 h1).mono fun _ _ ⟨he, hp⟩ => ⟨he, SwB.post k3 k2 hp⟩

theorem swb_busy {w0 w : World} {sb : Nat} {S : SwS} (h : SwB w0 w sb S) (x : Int) (hx : Side x) (n : Int) (hn : (S.n : Int) = n) :
    Calls Try.prog 13 #[.pointer (some ⟨sb, 0, none⟩), .int .i64 x] w fun e w' => e = .returned (.int .i64 n) ∧ w = w' := by
  obtain ⟨own, k1, k2, k3⟩ := h
  subst hn
  exact sw_busy k1 x hx

theorem swb_up {w0 w : World} {sb : Nat} {S : SwS} (h : SwB w0 w sb S) (c : Int) (hc : (Lit.int .i64 c).wf = true) (v : Bool) (hv : (S.up c).isSome = v) :
    Calls Try.prog 19 #[.pointer (some ⟨sb, 0, none⟩), .int .i64 c] w fun e w' => e = .returned (.bool v) ∧ w = w' := by
  obtain ⟨own, k1, k2, k3⟩ := h
  exact sw_up k1 c hc v hv

theorem swb_send {w0 w : World} {sb : Nat} {S : SwS} (h : SwB w0 w sb S) {K : Nat} (hF : S.Few K) (hK : K ≤ 1000000000) (c : Int) (hc : (Lit.int .i64 c).wf = true) (x : Int) (s : ByteArray) (hs : s.size ≤ maxLen)
    (r : Int × SwS) (hr : sendS S c x s.data.toList = r) :
    Calls Try.prog 14 #[.pointer (some ⟨sb, 0, none⟩), .int .i64 c, .int .i64 x, .string s] w fun e w' => e = .returned (.int .i64 r.1) ∧ SwB w0 w' sb r.2 := by
  obtain ⟨own, h1, h2, h3⟩ := h
  exact (sw_send h1 hF hK c hc x s hs r hr).mono fun _ _ ⟨he, hp⟩ => ⟨he, SwB.post h3 h2 hp⟩

theorem swb_read {w0 w : World} {sb : Nat} {S : SwS} (h : SwB w0 w sb S) {K : Nat} (hF : S.Few K) (hK : K ≤ 1000000000) (c : Int) (hc : (Lit.int .i64 c).wf = true) (x : Int) (hxw : (Lit.int .i64 x).wf = true)
    (r : (List UInt8 × Int) × SwS) (hr : readS S c x = r) :
    Calls Try.prog 18 #[.pointer (some ⟨sb, 0, none⟩), .int .i64 c, .int .i64 x] w fun e w' => e = .returned (.tuple #[.string ⟨r.1.1.toArray⟩, .int .i64 r.1.2]) ∧ SwB w0 w' sb r.2 := by
  obtain ⟨own, h1, h2, h3⟩ := h
  exact (sw_read h1 hF hK c hc x hxw r hr).mono fun _ _ ⟨he, hp⟩ => ⟨he, SwB.post h3 h2 hp⟩

/-! ### of nothing more than K -/
theorem Few.mono {S : SwS} {K K' : Nat} (h : S.Few K) (hk : K ≤ K') : S.Few K' :=
  ⟨by have := h.1; omega, fun c q hq => by have := h.2 c q hq; omega⟩

theorem Few.new (p m : Int) : (newS p m).Few 0 := ⟨Int.le_refl _, fun c q hq => by cases hq⟩

theorem Few.set {S : SwS} {K : Nat} (h : S.Few K) (c : Int) (q : Pip × Pip) (hq : (q.1.ps.length ≤ K ∧ q.1.lost ≤ K) ∧ (q.2.ps.length ≤ K ∧ q.2.lost ≤ K)) : ({ S with up := setAt S.up c (some q) } : SwS).Few K := by
  refine ⟨h.1, fun c' q' hq' => ?_⟩
  have e' : setAt S.up c (some q) c' = some q' := hq'
  by_cases e : c' = c
  · subst e
    rw [setAt_same] at e'; cases e'
    exact hq
  · rw [setAt_other _ _ _ _ e] at e'
    exact h.2 c' q' e'

theorem few_setPip {K : Nat} {q : Pip × Pip} (hq : (q.1.ps.length ≤ K ∧ q.1.lost ≤ K) ∧ (q.2.ps.length ≤ K ∧ q.2.lost ≤ K)) (x : Int) (p : Pip) (hp : p.ps.length ≤ K ∧ p.lost ≤ K) :
    ((setPip q x p).1.ps.length ≤ K ∧ (setPip q x p).1.lost ≤ K) ∧ ((setPip q x p).2.ps.length ≤ K ∧ (setPip q x p).2.lost ≤ K) := by
  unfold setPip
  split
  · exact ⟨hp, hq.2⟩
  · exact ⟨hq.1, hp⟩

theorem Few.dial {S : SwS} {K : Nat} (h : S.Few K) (x y : Int) : (dialS S x y).2.Few (K + 1) := by
  unfold dialS
  split
  · exact Few.mono h (by omega)
  · split
    · exact Few.mono h (by omega)
    · split
      · exact Few.mono (S := { S with owed := S.owed - 1 }) (K := K) ⟨h.1, h.2⟩ (by omega)
      · refine ⟨by have := h.1; show S.last + 1 ≤ ((K + 1 : Nat) : Int); omega, fun c q hq => ?_⟩
        have hq' : setAt S.up (S.last + 1) (some ((⟨[], 0⟩ : Pip), (⟨[], 0⟩ : Pip))) c = some q := hq
        by_cases e : c = S.last + 1
        · subst e
          rw [setAt_same] at hq'; cases hq'
          exact ⟨⟨Nat.zero_le _, by show (0 : Int) ≤ _; omega⟩, ⟨Nat.zero_le _, by show (0 : Int) ≤ _; omega⟩⟩
        · rw [setAt_other _ _ _ _ e] at hq'
          have := h.2 c q hq'
          omega

theorem Few.hang {S : SwS} {K : Nat} (h : S.Few K) (c : Int) : (hangS S c).2.Few K := by
  unfold hangS
  split
  · exact h
  · refine ⟨h.1, fun c' q' hq' => ?_⟩
    have e' : setAt S.up c none c' = some q' := hq'
    by_cases e : c' = c
    · subst e; rw [setAt_same] at e'; cases e'
    · rw [setAt_other _ _ _ _ e] at e'
      exact h.2 c' q' e'

theorem Few.send {S : SwS} {K : Nat} (h : S.Few K) (c x : Int) (d : List UInt8) : (sendS S c x d).2.Few (K + 1) := by
  unfold sendS
  split
  · exact Few.mono h (by omega)
  · rename_i q hu
    have hp := few_pip h hu x
    have hq := h.2 c q hu
    have hq' : (q.1.ps.length ≤ K + 1 ∧ q.1.lost ≤ ((K + 1 : Nat) : Int)) ∧ (q.2.ps.length ≤ K + 1 ∧ q.2.lost ≤ ((K + 1 : Nat) : Int)) := by omega
    split
    · split
      · exact Few.mono h (by omega)
      · split
        · exact Few.set (Few.mono h (by omega)) c _ (few_setPip hq' x _ ⟨by show (getPip q x).ps.length ≤ _; omega, by show (getPip q x).lost - 1 ≤ _; omega⟩)
        · exact Few.set (Few.mono h (by omega)) c _ (few_setPip hq' x _ ⟨by show ((getPip q x).ps ++ [d]).length ≤ _; simp; omega, by show (getPip q x).lost ≤ _; omega⟩)
    · exact Few.mono h (by omega)

theorem Few.read {S : SwS} {K : Nat} (h : S.Few K) (c x : Int) : (readS S c x).2.Few K := by
  unfold readS
  split
  · exact h
  · rename_i q hu
    have hp := few_pip h hu (1 - x)
    have hq := h.2 c q hu
    split
    · exact Few.set h c _ (few_setPip hq _ _ ⟨Nat.zero_le _, hp.2⟩)
    · exact h

/-! ### awake -/
def A1 : SwS := (dialS (newS 1 10) 0 1).2
def A2 : SwS := (sendS A1 1 0 [97, 98]).2
def A3 : SwS := (readS A2 1 1).2
def A4 : SwS := (hangS A3 1).2

theorem a1 : dialS (newS 1 10) 0 1 = ((1, 0), A1) := rfl
theorem a2 : dialS A1 1 0 = ((0, 2501), A1) := rfl
theorem a3 : sendS A1 1 0 [97, 98] = (0, A2) := rfl
theorem a4 : readS A2 1 1 = (([97, 98], 0), A3) := rfl
theorem a5 : hangS A3 1 = (0, A4) := rfl
theorem a6 : sendS A4 1 0 [120] = (2502, A4) := rfl
theorem a7 : (A4.up 1).isSome = false := rfl
theorem a8 : (A4.n : Int) = 0 := rfl

theorem wf1 : (Lit.int .i64 1).wf = true := by decide

set_option maxRecDepth 100000 in
set_option maxHeartbeats 1000000 in
theorem awake_ok (w : World) : Calls Try.prog 8 #[] w fun e w' => e = .returned (.bool true) ∧ Fr (fun _ => False) w w' := by
  have F1 : A1.Few 1 := Few.dial (Few.new 1 10) 0 1
  have F2 : A2.Few 2 := Few.send F1 1 0 [97, 98]
  have F3 : A3.Few 2 := Few.read F2 1 1
  have F4 : A4.Few 2 := Few.hang F3 1
  have L0 : (newS 1 10).last ≤ 1000000000 := by decide
  have L1 : A1.last ≤ 1000000000 := by decide
  have HF := Lib.hid (And.intro F1 (And.intro F2 (And.intro F4 (And.intro L0 L1)))); clear F1 F2 F3 F4 L0 L1
  go_enter Try.func8, Try.ntmps8
  go_wp2_with fail
  refine (swb_new 1 10 _ (by omega) (by omega) (by omega) (by omega)).mono ?_
  rintro e w1 ⟨sb, rfl, hq1⟩
  have H1 := Lib.hid hq1; clear hq1
  go_wp2_with (go_at_call 12; refine (num_any _ _).mono ?_; rintro e w2 ⟨rfl, rfl⟩)
  refine (swb_dial H1.out HF.out.2.2.2.1 0 1 _ a1).mono ?_
  rintro e w2 ⟨rfl, hq2⟩
  have H2 := Lib.hid hq2; clear hq2 H1
  go_wp2_with fail
  refine (swb_dial H2.out HF.out.2.2.2.2 1 0 _ a2).mono ?_
  rintro e w3 ⟨rfl, hq3⟩
  have H3 := Lib.hid hq3; clear hq3 H2
  go_wp2_with fail
  refine (swb_send H3.out HF.out.1 (by omega) 1 wf1 0 ⟨#[97, 98]⟩ (by decide) _ a3).mono ?_
  rintro e w4 ⟨rfl, hq4⟩
  have H4 := Lib.hid hq4; clear hq4 H3
  go_wp2_with fail
  refine (swb_read H4.out HF.out.2.1 (by omega) 1 wf1 1 wf1 _ a4).mono ?_
  rintro e w5 ⟨rfl, hq5⟩
  have H5 := Lib.hid hq5; clear hq5 H4
  go_wp2_with fail
  refine (swb_hang H5.out 1 wf1 _ a5).mono ?_
  rintro e w6 ⟨rfl, hq6⟩
  have H6 := Lib.hid hq6; clear hq6 H5
  go_wp2_with fail
  refine (swb_send H6.out HF.out.2.2.1 (by omega) 1 wf1 0 ⟨#[120]⟩ (by decide) _ a6).mono ?_
  rintro e w7 ⟨rfl, hq7⟩
  have H7 := Lib.hid hq7; clear hq7 H6
  go_wp2_with (first | (go_at_call 12; refine (num_any _ _).mono ?_; rintro e w2 ⟨rfl, rfl⟩) | (go_at_call 19; refine (swb_up H7.out 1 wf1 false a7).mono ?_; rintro e w2 ⟨rfl, rfl⟩) | (go_at_call 13; refine (swb_busy H7.out 0 (Or.inl rfl) 0 a8).mono ?_; rintro e w2 ⟨rfl, rfl⟩))
  go_ret
  exact ⟨rfl, H7.out.same⟩

end Go.Proofs.Ytmbnifnhalgdgaa
