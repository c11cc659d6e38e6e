/- The walk over Meters: it returns true. -/
import Derived.Test.YtpdhjjmhdoghjaaRGo
import Derived.Deep.RegionWith
import Derived.StillTailTactics
import Derived.Deep.RegionHeld3
namespace Go.Proofs.Ytpdhjjmhdoghjaa
open Go.RowKit

/-- The reference's object at block b; all that is its own lies from block B on. -/
def IsR (w : World) (B b : Nat) (n h l d : Int) (L : List (Int × Int)) (s ab be : Int) : Prop :=
  B ≤ b ∧ B ≤ w.heap.size ∧ 1 ≤ n ∧ n ≤ 32 ∧ (L.length : Int) ≤ n ∧ (∀ p ∈ L, Fine p) ∧ (0 ≤ l ∧ l < h ∧ h ≤ 1000) ∧ (1 ≤ d ∧ d ≤ 4096) ∧ (0 ≤ ab ∧ ab ≤ 5000) ∧ (0 ≤ be ∧ be ≤ 5000) ∧
  ∃ gs gg vs vg, Blk w b (rCells s n h l d vs vg ab be) 38 ∧ Holds w gs 1 vs L.length (sents L) ∧ Holds w gg 1 vg L.length (gots L) ∧
    (∀ k, gs = some k → B ≤ k ∧ k ≠ b) ∧ (∀ k, gg = some k → B ≤ k ∧ k ≠ b) ∧ (∀ k, gs = some k → gg ≠ some k)

theorem IsR.keep {w w' : World} {B b : Nat} {n h l d s ab be : Int} {L : List (Int × Int)} {S : Nat → Prop} (hh : IsR w B b n h l d L s ab be) (hf : Fr S w w') (hS : ∀ k, S k → k < B) : IsR w' B b n h l d L s ab be := by
  obtain ⟨h1, h2, h3, h4, h5, h6, h7, h8, h9, h10, gs, gg, vs, vg, hb, hs, hg, d1, d2, d3⟩ := hh
  refine ⟨h1, Nat.le_trans h2 hf.size, h3, h4, h5, h6, h7, h8, h9, h10, gs, gg, vs, vg, hb.keep hf (fun h => ?_), hs.keep hf (fun k hk h => ?_), hg.keep hf (fun k hk h => ?_), d1, d2, d3⟩
  · have := hS b h; omega
  · have := hS k h; have := (d1 k hk).1; omega
  · have := hS k h; have := (d2 k hk).1; omega

theorem IsR.drewN {w : World} {B b : Nat} {n h l d s ab be : Int} {L : List (Int × Int)} (m : Nat) (hh : IsR w B b n h l d L s ab be) : IsR (w.drewN m) B b n h l d L s ab be := hh

theorem IsR.share {w : World} {B b : Nat} {n h l d s ab be : Int} {L : List (Int × Int)} (hh : IsR w B b n h l d L s ab be) : w.cell? ⟨b, 0, none⟩ = some (.int .i64 s) := by
  obtain ⟨h1, h2, h3, h4, h5, h6, h7, h8, h9, h10, gs, gg, vs, vg, hb, hs, hg, d1, d2, d3⟩ := hh
  exact hb.cell 0

theorem IsR.nums {w : World} {B b : Nat} {n h l d s ab be : Int} {L : List (Int × Int)} (hh : IsR w B b n h l d L s ab be) : 1 ≤ n ∧ (L.length : Int) ≤ n := ⟨hh.2.2.1, hh.2.2.2.2.1⟩

theorem quiet_of_eq {P : Program} {f : FuncId} {args : Array Value} {w : World} {n : Nat} {v : Value}
    (h : Calls P f args (w.drewN n) fun e w' => e = .returned v ∧ w.drewN n = w') : Calls P f args (w.drewN n) fun e w'' => e = .returned v ∧ ∃ m, w'' = w.drewN m :=
  h.mono fun _ _ ⟨he, hm⟩ => ⟨he, n, hm.symm⟩

theorem fr_of_below {B : Nat} {w w' : World} (h : Below B w w') : Fr (fun k => B ≤ k) w w' :=
  ⟨h.os, h.tape, h.output, h.size, fun k _ hs => h.block k (by omega)⟩

theorem RowIn.lt {k : IntKind} {w : World} {b o len cap : Nat} {zs : List Int} (h : RowIn k w (some ⟨b, o, none⟩) len cap zs) (hl : 0 < len) : b < w.heap.size := by
  rcases h with ⟨h, _⟩ | ⟨x, hx, h1, _, h3, hc, _⟩
  · cases h
  · cases hx
    have := hc 0 (by omega)
    exact World.block_lt_of_cell? w _ this

theorem cell_lt {w : World} {b o : Nat} {v : Value} (h : w.cell? ⟨b, o, none⟩ = some v) : b < w.heap.size := World.block_lt_of_cell? w _ h

theorem cell_keep {S : Nat → Prop} {w w' : World} {b o : Nat} {v : Value} (h : w.cell? ⟨b, o, none⟩ = some v) (hf : Fr S w w') (hb : ¬ S b) : w'.cell? ⟨b, o, none⟩ = some v := by
  rw [← h]
  exact World.cell?_of_block (w := w) (hf.block b (cell_lt h) hb)

theorem same_of_below {B : Nat} {w w1 w2 : World} (h : Same w w1) (k : Below B w1 w2) (hB : w.heap.size ≤ B) : Same w w2 :=
  ⟨k.os.trans h.os, k.tape.trans h.tape, k.output.trans h.output, Nat.le_trans h.size k.size, fun i hi hs => (k.block i (by omega)).trans (h.block i hi hs)⟩

theorem rnew_ok (n h l d : Int) (w : World) (hv : mayM n h l d = true) :
    Calls Try.prog 11 #[.int .i64 n, .int .i64 h, .int .i64 l, .int .i64 d] w fun e w' => ∃ b, e = .returned (.tuple #[.pointer (some ⟨b, 0, none⟩), .int .i64 0]) ∧
      IsR w' w.heap.size b n h l d [] 0 0 0 ∧ Same w w' := by
  obtain ⟨⟨h1, h2⟩, h3, h4, h5, h6, h7, h8⟩ := may_bounds hv
  refine (rnew_good n h l d w hv).mono fun e w' ⟨he, hw⟩ => ⟨w.heap.size, he, ?_, ?_⟩
  · subst hw
    refine ⟨Nat.le_refl _, by simp, h1, h2, by simp; omega, by simp, ⟨h5, h6, h4⟩, ⟨h7, h8⟩, by omega, by omega, none, none, .slice none 0 0, .slice none 0 0, Blk.new _ _ _, Holds.nil _ _, Holds.nil _ _, ?_, ?_, ?_⟩
    · intro k hk; cases hk
    · intro k hk; cases hk
    · intro k hk; cases hk
  · subst hw
    exact (Fr.refl _ _).alloc _

theorem refE_bound (d : Int) (q : Int × Int) (hd : 1 ≤ d ∧ d ≤ 4096) (h1 : 0 ≤ q.1 ∧ q.1 ≤ 5001) (h2 : 0 ≤ q.2 ∧ q.2 ≤ 5001) (hz : q.1 = 0 ∨ q.2 = 0) :
    (0 ≤ (refE d q).2.1 ∧ (refE d q).2.1 ≤ 5000) ∧ 0 ≤ (refE d q).2.2 ∧ (refE d q).2.2 ≤ 5000 := by
  unfold refE
  split
  · simp only; omega
  · split <;> (simp only; omega)

theorem refQ_zero (s h l ab be : Int) : (refQ s h l ab be).1 = 0 ∨ (refQ s h l ab be).2 = 0 := by
  unfold refQ
  split
  · exact Or.inr rfl
  · split
    · exact Or.inl rfl
    · exact Or.inl rfl

theorem rtick_ok {w : World} {B b : Nat} {n h l d s0 ab be : Int} {L : List (Int × Int)} (hh : IsR w B b n h l d L s0 ab be) (x y : Int) (hp : Fine (x, y)) (s v ab' be' : Int)
    (hs : shr (add1 n L (x, y)) = s) (hr : refE d (refQ s h l ab be) = (v, ab', be')) :
    Calls Try.prog 15 #[.pointer (some ⟨b, 0, none⟩), .int .i64 x, .int .i64 y] w fun e w' => e = .returned (.tuple #[.int .i64 v, .int .i64 0]) ∧ IsR w' B b n h l d (add1 n L (x, y)) s ab' be' ∧ Below B w w' := by
  obtain ⟨h1, h2, h3, h4, h5, h6, h7, h8, h9, h10, gs, gg, vs, vg, hb, hs', hg, d1, d2, d3⟩ := hh
  refine (rtick_good B b s0 n h l d ab be x y gs gg vs vg L w h1 h2 hb hs' hg d1 d2 d3 hp h3 h4 h5 h6 h7 h8 h9 h10 s hs _ rfl _ hr).mono fun e w' ⟨he, gs', gg', vs', vg', hb', hs', hg', e1, e2, e3, hbel⟩ => ⟨he, ?_, hbel⟩
  have hq := refQ_le s h l ab be h9 h10
  have hbd := refE_bound d (refQ s h l ab be) h8 hq.1 hq.2 (refQ_zero s h l ab be)
  rw [hr] at hbd
  exact ⟨h1, Nat.le_trans h2 hbel.size, h3, h4, add1_len h5, add1_fine h6 hp, h7, h8, hbd.1, hbd.2, gs', gg', vs', vg', hb', hs', hg', e1, e2, e3⟩

/-- The ring's row is the list's with nothing ahead of it. -/
def Pad (n : Int) (LQ LR : List (Int × Int)) : Prop := LQ = List.replicate (n.toNat - LR.length) (0, 0) ++ LR

theorem Pad.start (n : Int) : Pad n (List.replicate n.toNat (0, 0)) [] := by unfold Pad; simp

theorem Pad.shr {n : Int} {LQ LR : List (Int × Int)} (h : Pad n LQ LR) : shr LQ = shr LR := by
  unfold Pad at h
  subst h
  unfold Ytpdhjjmhdoghjaa.shr
  rw [sumS_append, sumG_append, sumS_replicate, sumG_replicate, Int.zero_add, Int.zero_add]

theorem Pad.push {n : Int} {LQ LR : List (Int × Int)} (h : Pad n LQ LR) (p : Int × Int) (h1 : 1 ≤ n) (hl : (LR.length : Int) ≤ n) : Pad n (push LQ p) (add1 n LR p) := by
  unfold Pad at *
  subst h
  unfold add1 Ytpdhjjmhdoghjaa.push
  split
  · obtain ⟨m, hm⟩ : ∃ m, n.toNat - LR.length = m + 1 := ⟨n.toNat - LR.length - 1, by omega⟩
    have hm2 : n.toNat - (LR ++ [p]).length = m := by simp; omega
    rw [hm, hm2, List.replicate_succ]
    simp
  · rename_i hh
    have hm : n.toNat - LR.length = 0 := by omega
    have hm2 : n.toNat - (LR ++ [p]).tail.length = 0 := by rw [tail_length]; omega
    rw [hm, hm2]
    cases LR with
    | nil => exfalso; simp at hh; omega
    | cons q L => simp

/-- The run and the two counts tell the same. -/
def Tie (way long ab be : Int) : Prop := (way = 1 ∧ ab = long ∧ be = 0) ∨ (way = -1 ∧ be = long ∧ ab = 0) ∨ (way = 0 ∧ long = 0 ∧ ab = 0 ∧ be = 0)

theorem Tie.step {way long ab be : Int} (ht : Tie way long ab be) (s h l d : Int) (hd : 1 ≤ d) (hl : 0 ≤ long) (v way' long' : Int) (e : turnF (dirF s h l) d way long = (v, way', long')) :
    ∃ ab' be', refE d (refQ s h l ab be) = (v, ab', be') ∧ Tie way' long' ab' be' := by
  unfold dirF at e
  unfold refQ
  by_cases c1 : h ≤ s
  · rw [if_pos c1] at e ⊢
    unfold turnF at e
    unfold refE
    rw [if_neg (by omega)] at e
    rcases ht with ⟨rfl, rfl, rfl⟩ | ⟨rfl, rfl, rfl⟩ | ⟨rfl, rfl, rfl, rfl⟩
    · rw [if_pos rfl] at e
      by_cases c2 : ab + 1 < d
      · rw [if_pos c2] at e; cases e
        rw [if_neg (by show ¬ d ≤ ab + 1; omega), if_neg (by show ¬ d ≤ 0; omega)]
        exact ⟨_, _, rfl, Or.inl ⟨rfl, rfl, rfl⟩⟩
      · rw [if_neg c2] at e; cases e
        rw [if_pos (by show d ≤ ab + 1; omega)]
        exact ⟨_, _, rfl, Or.inl ⟨rfl, rfl, rfl⟩⟩
    · rw [if_neg (by omega)] at e
      by_cases c2 : 1 < d
      · rw [if_pos c2] at e; cases e
        rw [if_neg (by show ¬ d ≤ 0 + 1; omega), if_neg (by show ¬ d ≤ 0; omega)]
        exact ⟨_, _, rfl, Or.inl ⟨rfl, rfl, rfl⟩⟩
      · rw [if_neg c2] at e; cases e
        rw [if_pos (by show d ≤ 0 + 1; omega)]
        exact ⟨_, _, rfl, Or.inl ⟨rfl, rfl, rfl⟩⟩
    · rw [if_neg (by omega)] at e
      by_cases c2 : 1 < d
      · rw [if_pos c2] at e; cases e
        rw [if_neg (by show ¬ d ≤ 0 + 1; omega), if_neg (by show ¬ d ≤ 0; omega)]
        exact ⟨_, _, rfl, Or.inl ⟨rfl, rfl, rfl⟩⟩
      · rw [if_neg c2] at e; cases e
        rw [if_pos (by show d ≤ 0 + 1; omega)]
        exact ⟨_, _, rfl, Or.inl ⟨rfl, rfl, rfl⟩⟩
  · rw [if_neg c1] at e ⊢
    by_cases c3 : s ≤ l
    · rw [if_pos c3] at e ⊢
      unfold turnF at e
      unfold refE
      rw [if_neg (by omega)] at e
      rw [if_neg (by show ¬ d ≤ 0; omega)]
      rcases ht with ⟨rfl, rfl, rfl⟩ | ⟨rfl, rfl, rfl⟩ | ⟨rfl, rfl, rfl, rfl⟩
      · rw [if_neg (by omega)] at e
        by_cases c2 : 1 < d
        · rw [if_pos c2] at e; cases e
          rw [if_neg (by show ¬ d ≤ 0 + 1; omega)]
          exact ⟨_, _, rfl, Or.inr (Or.inl ⟨rfl, rfl, rfl⟩)⟩
        · rw [if_neg c2] at e; cases e
          rw [if_pos (by show d ≤ 0 + 1; omega)]
          exact ⟨_, _, rfl, Or.inr (Or.inl ⟨rfl, rfl, rfl⟩)⟩
      · rw [if_pos rfl] at e
        by_cases c2 : be + 1 < d
        · rw [if_pos c2] at e; cases e
          rw [if_neg (by show ¬ d ≤ be + 1; omega)]
          exact ⟨_, _, rfl, Or.inr (Or.inl ⟨rfl, rfl, rfl⟩)⟩
        · rw [if_neg c2] at e; cases e
          rw [if_pos (by show d ≤ be + 1; omega)]
          exact ⟨_, _, rfl, Or.inr (Or.inl ⟨rfl, rfl, rfl⟩)⟩
      · rw [if_neg (by omega)] at e
        by_cases c2 : 1 < d
        · rw [if_pos c2] at e; cases e
          rw [if_neg (by show ¬ d ≤ 0 + 1; omega)]
          exact ⟨_, _, rfl, Or.inr (Or.inl ⟨rfl, rfl, rfl⟩)⟩
        · rw [if_neg c2] at e; cases e
          rw [if_pos (by show d ≤ 0 + 1; omega)]
          exact ⟨_, _, rfl, Or.inr (Or.inl ⟨rfl, rfl, rfl⟩)⟩
    · rw [if_neg c3] at e ⊢
      unfold turnF at e
      unfold refE
      rw [if_pos rfl] at e
      rw [if_neg (by show ¬ d ≤ 0; omega), if_neg (by show ¬ d ≤ 0; omega)]
      rcases ht with ⟨rfl, rfl, rfl⟩ | ⟨rfl, rfl, rfl⟩ | ⟨rfl, rfl, rfl, rfl⟩ <;> (simp at e; obtain ⟨rfl, rfl, rfl⟩ := e; exact ⟨_, _, rfl, Or.inr (Or.inr ⟨rfl, rfl, rfl, rfl⟩)⟩)

theorem IsM.pars {w : World} {r b : Nat} {h l d way long : Int} {L : List (Int × Int)} (hm : IsM w r b h l d L way long) : (1 ≤ d ∧ d ≤ 4096) ∧ 0 ≤ long := by
  obtain ⟨R, i, a1, a2, a3, a4, a5, a6, a7, hb, hr⟩ := hm
  exact ⟨⟨a6.2.2.2.2.1, a6.2.2.2.2.2⟩, a7.1⟩

end Go.Proofs.Ytpdhjjmhdoghjaa
