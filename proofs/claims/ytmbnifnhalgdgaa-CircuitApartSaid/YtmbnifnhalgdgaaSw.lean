/- The contracts of New, Dial, Hang, Cut, Busy, Up, Fail over what a switch is. -/
import Derived.Test.YtmbnifnhalgdgaaState
namespace Go.Proofs.Ytmbnifnhalgdgaa
open Go.RowKit

theorem newS_ok (p m : Int) (h1 : 1 ≤ p) (h2 : p ≤ 8) (h3 : 1 ≤ m) (h4 : m ≤ 65536) : (newS p m).Ok :=
  ⟨h1, h2, h3, h4, Int.le_refl _, Int.le_refl _, by show (0 : Int) ≤ _; omega, by show (0 : Int) ≤ p; omega, fun c q h => by cases h⟩

theorem sw_new (p m : Int) (w : World) (h1 : 1 ≤ p) (h2 : p ≤ 8) (h3 : 1 ≤ m) (h4 : m ≤ 65536) :
    Calls Try.prog 9 #[.int .i64 p, .int .i64 m] w fun e w' => ∃ sb own, e = .returned (.tuple #[.pointer (some ⟨sb, 0, none⟩), .int .i64 0]) ∧ IsSw w' own sb (newS p m) ∧
      (∀ k r, own k = some r → w.heap.size ≤ k) ∧ Fr (fun _ => False) w w' := by
  refine (new_good p m w h1 h2 h3 h4).mono fun e w' ⟨he, hw⟩ => ?_
  subst hw
  refine ⟨w.heap.size + 1, fun k => if k = w.heap.size + 1 then some .sw else if k = w.heap.size then some .mp else none, he, ⟨w.heap.size, fun _ => none, ?_⟩, ?_, ((Fr.refl _ _).alloc _).alloc _⟩
  · have hs : (w.alloc (.map #[] 0)).heap.size = w.heap.size + 1 := by simp
    have hb := Blk.new (w.alloc (.map #[] 0)) (swCells p m 0 0 w.heap.size) 50
    rw [hs] at hb
    refine ⟨hb, (IsMp.made w).keep ((Fr.refl (fun _ => False) _).alloc _) id, if_pos rfl, ?_, ?_, newS_ok p m h1 h2 h3 h4, fun c _ => rfl, fun c q hq => by cases hq⟩
    · show (if w.heap.size = w.heap.size + 1 then some Role.sw else if w.heap.size = w.heap.size then some .mp else none) = some .mp
      rw [if_neg (by omega), if_pos rfl]
    · intro k r hk
      have : k ≤ w.heap.size + 1 := by
        split at hk
        · omega
        · split at hk
          · omega
          · cases hk
      simp
      omega
  · intro k r hk
    simp only at hk
    split at hk
    · omega
    · split at hk
      · omega
      · cases hk

theorem sw_busy {w : World} {own : Owner} {sb : Nat} {S : SwS} (h : IsSw w own sb S) (x : Int) (hx : Side x) :
    Calls Try.prog 13 #[.pointer (some ⟨sb, 0, none⟩), .int .i64 x] w fun e w' => e = .returned (.int .i64 (S.n : Int)) ∧ w = w' := by
  obtain ⟨mb, f, h⟩ := h
  exact busy_ok h.blk h.map x hx

theorem sw_up {w : World} {own : Owner} {sb : Nat} {S : SwS} (h : IsSw w own sb S) (c : Int) (hc : (Lit.int .i64 c).wf = true) (v : Bool) (hv : (S.up c).isSome = v) :
    Calls Try.prog 19 #[.pointer (some ⟨sb, 0, none⟩), .int .i64 c] w fun e w' => e = .returned (.bool v) ∧ w = w' := by
  obtain ⟨mb, f, h⟩ := h
  subst hv
  cases hu : S.up c with
  | none => exact up_no h.blk h.map c hc (h.no c hu)
  | some q =>
    obtain ⟨b, e1, _⟩ := h.yes c q hu
    exact up_yes h.blk h.map c hc b e1

/-- The switch's own block turns. -/
theorem SwAt.blkTurn {w w' : World} {own : Owner} {sb mb : Nat} {f : Int → Option Nat} {S S' : SwS} (h : SwAt w own sb mb f S) (hf : Fr (fun k => k = sb) w w') (hb : Blk w' sb (swCells S'.ports S'.most S'.last S'.owed mb) 50)
    (hn : S'.n = S.n) (hu : S'.up = S.up) (hok : S'.Ok) : SwAt w' own sb mb f S' where
  blk := hb
  map := hn ▸ h.map.keep hf (fun e => by have := h.omp; rw [e, h.osw] at this; cases this)
  osw := h.osw
  omp := h.omp
  old := fun k r hk => Nat.lt_of_lt_of_le (h.old k r hk) hf.size
  ok := hok
  no := fun c hc => h.no c (hu ▸ hc)
  yes := fun c q hq => by
    obtain ⟨b, e1, e2, e3⟩ := h.yes c q (hu ▸ hq)
    refine ⟨b, e1, e2, e3.keep hf (fun _ _ h => h) (fun e => ?_) (fun s k hk e => ?_) (fun s k hk e => ?_)⟩
    · rw [e, h.osw] at e2; cases e2
    · rw [e, h.osw] at hk; cases hk
    · rw [e, h.osw] at hk; cases hk

theorem sw_fail {w : World} {own : Owner} {sb : Nat} {S : SwS} (h : IsSw w own sb S) (x : Int) (h0 : 0 ≤ x) (h1 : x ≤ 9223372036854775807) :
    Calls Try.prog 10 #[.pointer (some ⟨sb, 0, none⟩), .int .i64 x] w fun e w' => e = .returned (.int .i64 0) ∧ Post own w sb { S with owed := x } w' := by
  obtain ⟨mb, f, h⟩ := h
  refine (fail_ok h.blk x h0).mono fun e w' ⟨he, hb, hf⟩ => ⟨he, own, ⟨mb, f, ?_⟩, Grow.refl _ _, hf.mono (fun k _ hk => ⟨_, hk ▸ h.osw⟩)⟩
  have hok := h.ok
  exact h.blkTurn hf hb rfl rfl ⟨hok.p1, hok.p2, hok.m1, hok.m2, hok.l1, h0, h1, hok.n1, hok.up⟩

theorem sw_hang {w : World} {own : Owner} {sb : Nat} {S : SwS} (h : IsSw w own sb S) (c : Int) (hc : (Lit.int .i64 c).wf = true) (r : Int × SwS) (hr : hangS S c = r) :
    Calls Try.prog 20 #[.pointer (some ⟨sb, 0, none⟩), .int .i64 c] w fun e w' => e = .returned (.int .i64 r.1) ∧ Post own w sb r.2 w' := by
  subst hr
  have h' := h
  obtain ⟨mb, f, h⟩ := h
  unfold hangS
  cases hu : S.up c with
  | none => exact (hang_no h.blk h.map c hc (h.no c hu)).mono fun e w' ⟨he, hw⟩ => ⟨he, hw ▸ Post.same h' (Fr.refl _ _)⟩
  | some q =>
    obtain ⟨b, e1, e2, e3⟩ := h.yes c q hu
    refine (hang_yes h.blk h.map c hc b e1).mono fun e w' ⟨he, hn0, hm, hf⟩ => ⟨he, own, ⟨mb, setAt f c none, ?_⟩, Grow.refl _ _, hf.mono (fun k _ hk => ⟨_, hk ▸ h.omp⟩)⟩
    have hok := h.ok
    have hupp : ∀ x q', setAt S.up c none x = some q' → S.up x = some q' ∧ x ≠ c := by
      intro x q' hx
      by_cases e : x = c
      · subst e; rw [setAt_same] at hx; cases hx
      · rw [setAt_other _ _ _ _ e] at hx; exact ⟨hx, e⟩
    refine ⟨h.blk.keep hf (fun e => by have := h.osw; rw [e, h.omp] at this; cases this), hm, h.osw, h.omp, fun k r hk => Nat.lt_of_lt_of_le (h.old k r hk) hf.size, ?_, ?_, ?_⟩
    · exact ⟨hok.p1, hok.p2, hok.m1, hok.m2, hok.l1, hok.o1, hok.o2, by have := hok.n1; show ((S.n - 1 : Nat) : Int) ≤ S.ports; omega, fun x q' hx => hok.up x q' (hupp x q' hx).1⟩
    · intro x hx
      by_cases e : x = c
      · subst e; exact setAt_same _ _ _
      · have hx' : setAt S.up c none x = none := hx
        rw [setAt_other _ _ _ _ e] at hx' ⊢
        exact h.no x hx'
    · intro x q' hx
      obtain ⟨hx', e⟩ := hupp x q' hx
      obtain ⟨b', g1, g2, g3⟩ := h.yes x q' hx'
      refine ⟨b', by rw [setAt_other _ _ _ _ e]; exact g1, g2, g3.keep hf (fun _ _ h => h) (fun e => ?_) (fun s k hk e => ?_) (fun s k hk e => ?_)⟩
      · rw [e, h.omp] at g2; cases g2
      · rw [e, h.omp] at hk; cases hk
      · rw [e, h.omp] at hk; cases hk

theorem sw_cut {w : World} {own : Owner} {sb : Nat} {S : SwS} (h : IsSw w own sb S) (c : Int) (hc : (Lit.int .i64 c).wf = true) (r : Int × SwS) (hr : hangS S c = r) :
    Calls Try.prog 15 #[.pointer (some ⟨sb, 0, none⟩), .int .i64 c] w fun e w' => e = .returned (.int .i64 r.1) ∧ Post own w sb r.2 w' :=
  cut_of r.1 (fun w' => Post own w sb r.2 w') (sw_hang h c hc r hr)

theorem empty_pcs (w : World) (own : Owner) (c : Int) (s : Nat) : IsPcs w own c s (.slice none 0 0) [] :=
  ⟨none, [], rfl, Holds.nil _ _, (fun k hk => by cases hk), (fun q hq => by cases hq)⟩

theorem empty_circ (w : World) (own : Owner) (c : Int) (b : Nat) (hb : Blk w b newCirc 58) : IsCirc w own c b (⟨[], 0⟩, ⟨[], 0⟩) :=
  ⟨.slice none 0 0, .slice none 0 0, hb, empty_pcs w own c 0, empty_pcs w own c 1⟩

theorem dial_state_ok {S : SwS} (h : S.Ok) (x y : Int) : (dialS S x y).2.Ok := by
  unfold dialS
  split
  · exact h
  · split
    · exact h
    · split
      · exact ⟨h.p1, h.p2, h.m1, h.m2, h.l1, by show 0 ≤ S.owed - 1; omega, by have := h.o2; show S.owed - 1 ≤ _; omega, h.n1, h.up⟩
      · have hl1 := h.l1
        refine ⟨h.p1, h.p2, h.m1, h.m2, by show 0 ≤ S.last + 1; omega, h.o1, h.o2, by show ((S.n + 1 : Nat) : Int) ≤ S.ports; omega, fun c q hq => ?_⟩
        have hq' : setAt S.up (S.last + 1) (some ((⟨[], 0⟩ : Pip), (⟨[], 0⟩ : Pip))) c = some q := hq
        by_cases e : c = S.last + 1
        · subst e
          rw [setAt_same] at hq'
          cases hq'
          have hm1 := h.m1
          refine ⟨⟨by omega, Int.le_refl _⟩, ⟨by show (0 : Int) ≤ S.most; omega, Int.le_refl _⟩, ⟨by show (0 : Int) ≤ S.most; omega, Int.le_refl _⟩⟩
        · rw [setAt_other _ _ _ _ e] at hq'
          have := h.up c q hq'
          refine ⟨⟨this.1.1, ?_⟩, this.2⟩
          have := this.1.2
          show c ≤ S.last + 1
          omega

theorem sw_dial {w : World} {own : Owner} {sb : Nat} {S : SwS} (h : IsSw w own sb S) (hK : S.last ≤ 1000000000) (x y : Int) (r : (Int × Int) × SwS) (hr : dialS S x y = r) :
    Calls Try.prog 11 #[.pointer (some ⟨sb, 0, none⟩), .int .i64 x, .int .i64 y] w fun e w' => e = .returned (.tuple #[.int .i64 r.1.1, .int .i64 r.1.2]) ∧ Post own w sb r.2 w' := by
  have h' := h
  obtain ⟨mb, f, h⟩ := h
  have hok := h.ok
  have hok2 := dial_state_ok hok x y
  rw [hr] at hok2
  subst hr
  unfold dialS at *
  by_cases c1 : ¬ Side x ∨ y ≠ 1 - x
  · rw [if_pos c1] at *
    exact (dial_form sb x y w c1).mono fun e w' ⟨he, hw⟩ => ⟨he, hw ▸ Post.same h' (Fr.refl _ _)⟩
  · rw [if_neg c1] at *
    have hx : Side x := Classical.byContradiction fun hn => c1 (Or.inl hn)
    have hy : y = 1 - x := Classical.byContradiction fun hn => c1 (Or.inr hn)
    by_cases c2 : S.ports ≤ S.n
    · rw [if_pos c2] at *
      exact (dial_ports h.blk h.map x y hx hy c2).mono fun e w' ⟨he, m, hw⟩ => ⟨he, by subst hw; exact Post.same h' ((Fr.refl _ _).drewN _)⟩
    · rw [if_neg c2] at *
      by_cases c3 : 0 < S.owed
      · rw [if_pos c3] at *
        exact (dial_fails h.blk h.map x y hx hy (by omega) c3 hok.o2).mono fun e w' ⟨he, hb, hf⟩ => ⟨he, own, ⟨mb, f, h.blkTurn hf hb rfl rfl hok2⟩, Grow.refl _ _, hf.mono (fun k _ hk => ⟨_, hk ▸ h.osw⟩)⟩
      · rw [if_neg c3] at *
        have hne : mb ≠ sb := fun e => by have := h.omp; rw [e, h.osw] at this; cases this
        have hfn : f (S.last + 1) = none := by
          refine h.no _ ?_
          cases hu : S.up (S.last + 1) with
          | none => rfl
          | some q =>
            have := (hok.up _ q hu).1.2
            omega
        have ho : S.owed = 0 := by have := hok.o1; omega
        refine (dial_ok h.blk h.map hne x y hx hy (by omega) (by have := hok.p2; omega) ho hok.l1 hK hfn).mono fun e w' ⟨he, hb, hm, hc, hf⟩ => ⟨he, ?_⟩
        have hlt : w.heap.size < w'.heap.size := hc.lt
        have hown : ∀ k r, own k = some r → (if k = w.heap.size then some (Role.ci (S.last + 1)) else own k) = some r := fun k r hk => by
          rw [if_neg (by have := h.old k r hk; omega)]; exact hk
        refine ⟨fun k => if k = w.heap.size then some (.ci (S.last + 1)) else own k, ⟨mb, setAt f (S.last + 1) (some w.heap.size), ?_⟩, ⟨hown, fun k r hk => ?_⟩, hf.mono (fun k _ hk => ?_)⟩
        · refine ⟨hb, hm, hown _ _ h.osw, hown _ _ h.omp, fun k r hk => ?_, hok2, fun c hc' => ?_, fun c q hq => ?_⟩
          · split at hk
            · omega
            · exact Nat.lt_of_lt_of_le (h.old k r hk) hf.size
          · have hc2 : setAt S.up (S.last + 1) (some ((⟨[], 0⟩ : Pip), (⟨[], 0⟩ : Pip))) c = none := hc'
            by_cases e : c = S.last + 1
            · subst e; rw [setAt_same] at hc2; cases hc2
            · rw [setAt_other _ _ _ _ e] at hc2 ⊢
              exact h.no c hc2
          · have hq2 : setAt S.up (S.last + 1) (some ((⟨[], 0⟩ : Pip), (⟨[], 0⟩ : Pip))) c = some q := hq
            by_cases e : c = S.last + 1
            · subst e
              rw [setAt_same] at hq2; cases hq2
              exact ⟨w.heap.size, setAt_same _ _ _, if_pos rfl, empty_circ _ _ _ _ hc⟩
            · rw [setAt_other _ _ _ _ e] at hq2
              obtain ⟨b', g1, g2, g3⟩ := h.yes c q hq2
              refine ⟨b', by rw [setAt_other _ _ _ _ e]; exact g1, hown _ _ g2, g3.keep hf hown (fun e => ?_) (fun s k hk e => ?_) (fun s k hk e => ?_)⟩
              · rcases e with e | e
                · rw [e, h.osw] at g2; cases g2
                · rw [e, h.omp] at g2; cases g2
              · rcases e with e | e
                · rw [e, h.osw] at hk; cases hk
                · rw [e, h.omp] at hk; cases hk
              · rcases e with e | e
                · rw [e, h.osw] at hk; cases hk
                · rw [e, h.omp] at hk; cases hk
        · split at hk
          · right; omega
          · exact Or.inl hk
        · rcases hk with hk | hk
          · exact ⟨_, hk ▸ h.osw⟩
          · exact ⟨_, hk ▸ h.omp⟩

end Go.Proofs.Ytmbnifnhalgdgaa
