/- Walks over the reference of chapter 17: NewQuality, Add, Good. -/
import Derived.Test.YtbjahlapajfcaaaQueue
import Derived.BigQuiet
import Derived.BigRegion
import Derived.Deep.QuietTactic
namespace Go.Proofs.Ytbjahlapajfcaaa
open Go.RowKit

set_option maxHeartbeats 400000 in
theorem rnew_bad (n g o : Int) (w : World) (h : n < 1 ∨ 32 < n ∨ o < 1 ∨ 1000 < o ∨ g < 0 ∨ o < g) :
    Calls Try.prog 10 #[.int .i64 n, .int .i64 g, .int .i64 o] w fun e w' => e = .returned (.tuple #[.pointer none, .int .i64 1700]) ∧ w = w' := by
  go_enter Try.func10, Try.ntmps10
  go_wp2
  all_goals go_ret2
  all_goals exact ⟨rfl, rfl⟩

set_option maxHeartbeats 400000 in
theorem rnew_good (n g o : Int) (w : World) (h1 : 1 ≤ n) (h2 : n ≤ 32) (h3 : 1 ≤ o) (h4 : o ≤ 1000) (h5 : 0 ≤ g) (h6 : g ≤ o) :
    Calls Try.prog 10 #[.int .i64 n, .int .i64 g, .int .i64 o] w fun e w' => e = .returned (.tuple #[.pointer (some ⟨w.heap.size, 0, none⟩), .int .i64 0]) ∧
      w' = w.alloc (.cells #[.int .i64 n, .int .i64 g, .int .i64 o, .slice none 0 0, .slice none 0 0] 45) := by
  go_enter Try.func10, Try.ntmps10
  go_wp2
  go_ret2
  exact ⟨rfl, rfl⟩

set_option maxHeartbeats 400000 in
theorem radd_bad (b : Nat) (s t : Int) (w : World) (h : s < 0 ∨ 2147483647 < s ∨ t < 0 ∨ s < t) :
    Calls Try.prog 14 #[.pointer (some ⟨b, 0, none⟩), .int .i64 s, .int .i64 t] w fun e w' => e = .returned (.int .i64 1700) ∧ w = w' := by
  go_enter Try.func14, Try.ntmps14
  go_wp2
  all_goals go_ret
  all_goals exact ⟨rfl, rfl⟩

theorem info3 : (Try.prog.info? 3).map (fun i => (i.zero, i.size, i.bytes)) = some (some (.int .i64 0), 1, 8) := by kernel_rfl

theorem fr_set (w : World) (b i : Nat) (u : Value) : Fr (fun k => k = b) w (w.setCell ⟨b, i, none⟩ u) :=
  Fr.setCell (S := fun k => k = b) (Fr.refl _ _) (Or.inr rfl) _

def sents (L : List (Int × Int)) : List Value := L.map fun p => .int .i64 p.1
def gots (L : List (Int × Int)) : List Value := L.map fun p => .int .i64 p.2

/-- One more; of more than n the first goes. -/
def add1 (n : Int) (L : List (Int × Int)) (p : Int × Int) : List (Int × Int) := if (L.length : Int) < n then L ++ [p] else (L ++ [p]).tail

theorem tail_length (L : List (Int × Int)) (p : Int × Int) : (L ++ [p]).tail.length = L.length := by simp

theorem sents_tail (L : List (Int × Int)) (p : Int × Int) : ∃ u, sents (L ++ [p]) = [u] ++ sents (L ++ [p]).tail ∧ gots (L ++ [p]) = gots (L ++ [p]) := by
  cases L with
  | nil => exact ⟨_, rfl, rfl⟩
  | cons q L => exact ⟨_, rfl, rfl⟩

theorem gots_tail (L : List (Int × Int)) (p : Int × Int) : ∃ u, gots (L ++ [p]) = [u] ++ gots (L ++ [p]).tail := by
  cases L with
  | nil => exact ⟨_, rfl⟩
  | cons q L => exact ⟨_, rfl⟩

/-- What the two cuts leave. -/
theorem full_end (B b b1 off1 cap1 b2 off2 cap2 : Nat) (n g o : Int) (L : List (Int × Int)) (p : Int × Int) (W : World) (hB : B ≤ b) (h0 : B ≤ W.heap.size)
    (hb : Blk W b #[.int .i64 n, .int .i64 g, .int .i64 o, .slice (some ⟨b1, off1, none⟩) (L.length + 1) cap1, .slice (some ⟨b2, off2, none⟩) (L.length + 1) cap2] 45)
    (hs : Holds W (some b1) 1 (.slice (some ⟨b1, off1, none⟩) (L.length + 1) cap1) (L.length + 1) (sents (L ++ [p])))
    (hg : Holds W (some b2) 1 (.slice (some ⟨b2, off2, none⟩) (L.length + 1) cap2) (L.length + 1) (gots (L ++ [p])))
    (n1 : b1 ≠ b) (n2 : b2 ≠ b) (t1 t2 : Value)
    (ht1 : t1 = .slice (some (if cap1 = 1 then ⟨b1, off1, none⟩ else ⟨b1, off1 + 1, none⟩)) L.length (cap1 - 1)) (ht2 : t2 = .slice (some (if cap2 = 1 then ⟨b2, off2, none⟩ else ⟨b2, off2 + 1, none⟩)) L.length (cap2 - 1)) :
    Blk ((W.setCell ⟨b, 3, none⟩ t1).setCell ⟨b, 4, none⟩ t2) b #[.int .i64 n, .int .i64 g, .int .i64 o, t1, t2] 45 ∧
    Holds ((W.setCell ⟨b, 3, none⟩ t1).setCell ⟨b, 4, none⟩ t2) (some b1) 1 t1 L.length (sents (L ++ [p]).tail) ∧
    Holds ((W.setCell ⟨b, 3, none⟩ t1).setCell ⟨b, 4, none⟩ t2) (some b2) 1 t2 L.length (gots (L ++ [p]).tail) ∧
    Below B W ((W.setCell ⟨b, 3, none⟩ t1).setCell ⟨b, 4, none⟩ t2) := by
  have hk := (fr_set W b 3 t1).trans (fr_set (W.setCell ⟨b, 3, none⟩ t1) b 4 t2)
  obtain ⟨u, hu, _⟩ := sents_tail L p
  obtain ⟨u', hu'⟩ := gots_tail L p
  rw [hu] at hs
  rw [hu'] at hg
  refine ⟨?_, ?_, ?_, hk.below h0 (fun k hk hs => by omega)⟩
  · have := (hb.set 3 t1).set 4 t2
    simpa using this
  · rw [ht1] at hk ⊢
    exact (hs.tail (x := [u]) rfl).keep hk (fun k hk h => n1 ((Option.some.inj hk).trans h))
  · rw [ht2] at hk ⊢
    exact (hg.tail (x := [u']) rfl).keep hk (fun k hk h => n2 ((Option.some.inj hk).trans h))

set_option maxHeartbeats 2000000 in
theorem radd_good (B b : Nat) (n g o s t : Int) (gs gg : Option Nat) (vs vg : Value) (L : List (Int × Int)) (w : World) (hB : B ≤ b) (h0 : B ≤ w.heap.size)
    (hb : Blk w b #[.int .i64 n, .int .i64 g, .int .i64 o, vs, vg] 45) (hs : Holds w gs 1 vs L.length (sents L)) (hg : Holds w gg 1 vg L.length (gots L))
    (d1 : ∀ k, gs = some k → B ≤ k ∧ k ≠ b) (d2 : ∀ k, gg = some k → B ≤ k ∧ k ≠ b) (d3 : ∀ k, gs = some k → gg ≠ some k)
    (hp : Fine (s, t)) (hn0 : 1 ≤ n) (hn : n ≤ 32) (hL : (L.length : Int) ≤ n) :
    Calls Try.prog 14 #[.pointer (some ⟨b, 0, none⟩), .int .i64 s, .int .i64 t] w fun e w' => e = .returned (.int .i64 0) ∧ Below B w w' ∧
      ∃ gs' gg' vs' vg', Blk w' b #[.int .i64 n, .int .i64 g, .int .i64 o, vs', vg'] 45 ∧ Holds w' gs' 1 vs' (add1 n L (s, t)).length (sents (add1 n L (s, t))) ∧ Holds w' gg' 1 vg' (add1 n L (s, t)).length (gots (add1 n L (s, t))) ∧
      (∀ k, gs' = some k → B ≤ k ∧ k ≠ b) ∧ (∀ k, gg' = some k → B ≤ k ∧ k ≠ b) ∧ (∀ k, gs' = some k → gg' ≠ some k) := by
  obtain ⟨i3, hi, hz0, hz1, hz2⟩ := info_parts info3
  have hl : L.length ≤ 32 := by omega
  have c3 : w.cell? ⟨b, 3, none⟩ = some vs := hb.cell 3
  have HB := Lib.hid hb; clear hb
  have HS := Lib.hid hs; clear hs
  have HG := Lib.hid hg; clear hg
  have D1 := Lib.hid d1; clear d1
  have D2 := Lib.hid d2; clear d2
  have D3 := Lib.hid d3; clear d3
  have HP := Lib.hid hp
  unfold Fine at hp
  obtain ⟨f1, f2, f3⟩ := hp
  simp only at f1 f2 f3
  have f4 : 0 ≤ s := by omega
  have HI := Lib.hid (And.intro hi (And.intro hz0 (And.intro hz1 hz2))); clear hi hz0 hz1 hz2
  go_enter Try.func14, Try.ntmps14
  go_wp2_with (at_builtin; refine wpList_append_holds _ rfl _ _ 22 rfl 3 i3 (.int .i64 0) 1 8 Try.underlying22 HI.out.1 HI.out.2.1 HI.out.2.2.1 HI.out.2.2.2 rfl (by decide) gs vs L.length (sents L) rfl (HS.out.keep ((Fr.refl (fun _ => False) w).alloc _) (fun _ _ h => h)) ⟨w.heap.size, 0, none⟩ 1 1 [.int .i64 s] rfl rfl (cell_one_new _ _ _) (by simp [Value.oneCell']) (by decide) (by unfold maxLen; omega) (by omega) ?_)
  intro b1 off1 cap1 w1 hh1 hor1 hlt1 hf1
  have hf0 : Fr (fun k => gs = some k) w (w.alloc (.cells #[.int .i64 s] 3)) := (Fr.refl _ w).alloc _
  have hf01 := hf0.trans hf1
  have hbn : ¬ gs = some b := fun h => (D1.out b h).2 rfl
  have hb1 : Blk w1 b #[.int .i64 n, .int .i64 g, .int .i64 o, vs, vg] 45 := HB.out.keep hf01 hbn
  have hg1 : Holds w1 gg 1 vg L.length (gots L) := HG.out.keep hf01 (fun k hk hs => D3.out k hs hk)
  have hB1 : B ≤ b1 := by
    rcases hor1 with h | h
    · exact (D1.out b1 h).1
    · have h9 : w.heap.size + 1 ≤ b1 := by simpa using h
      omega
  have hne1 : b1 ≠ b := by
    rcases hor1 with h | h
    · exact (D1.out b1 h).2
    · have h9 : w.heap.size + 1 ≤ b1 := by simpa using h
      have := HB.out.lt
      omega
  have hgg1 : gg ≠ some b1 := by
    rcases hor1 with h | h
    · exact D3.out b1 h
    · intro hk
      have h9 : w.heap.size + 1 ≤ b1 := by simpa using h
      have := HG.out.lt b1 hk
      omega
  have c3 : w1.cell? ⟨b, 3, none⟩ = some vs := hb1.cell 3
  have f3 : w1.frozen? ⟨b, 3, none⟩ = false := hb1.frozen 3
  have c4 : w1.cell? ⟨b, 4, none⟩ = some vg := hb1.cell 4
  have HB1 := Lib.hid hb1; clear hb1
  have HG1 := Lib.hid hg1; clear hg1
  have HH1 := Lib.hid hh1; clear hh1
  have HF1 := Lib.hid hf01; clear hf01 hf0 hf1 hor1
  have HGG1 := Lib.hid hgg1; clear hgg1
  go_wp2_with (at_builtin; refine wpList_append_holds _ rfl _ _ 22 rfl 3 i3 (.int .i64 0) 1 8 Try.underlying22 HI.out.1 HI.out.2.1 HI.out.2.2.1 HI.out.2.2.2 rfl (by decide) gg vg L.length (gots L) rfl (HG1.out.keep (((Fr.refl (fun k => k = b) w1).setCell (Or.inr rfl) _).alloc _) (fun k hk h => (D2.out k hk).2 h)) ⟨w1.heap.size, 0, none⟩ 1 1 [.int .i64 t] rfl rfl (cell_one_at _ _ _ _ (size_setCell _ _ _)) (by simp [Value.oneCell']) (by decide) (by unfold maxLen; omega) (by omega) ?_)
  intro b2 off2 cap2 w2 hh2 hor2 hlt2 hf2
  have hfs : Fr (fun k => k = b) w1 (w1.setCell ⟨b, 3, none⟩ (.slice (some ⟨b1, off1, none⟩) (L.length + 1) cap1)) := fr_set _ _ _ _
  have hB1' := (HB1.out.set 3 (.slice (some ⟨b1, off1, none⟩) (L.length + 1) cap1)).alloc (.cells #[.int .i64 t] 3)
  have hb2 := hB1'.keep hf2 (fun h => (D2.out b h).2 rfl)
  have hs2 := (HH1.out.keep (hfs.alloc (.cells #[.int .i64 t] 3)) (fun k hk h => hne1 ((Option.some.inj hk).trans h))).keep hf2 (fun k hk hk2 => HGG1.out (hk2.trans hk.symm))
  have hor2' : gg = some b2 ∨ w1.heap.size + 1 ≤ b2 := by simpa [World.setCell] using hor2
  have hB2 : B ≤ b2 := by
    rcases hor2' with h | h
    · exact (D2.out b2 h).1
    · have := HF1.out.size
      omega
  have hne2 : b2 ≠ b := by
    rcases hor2' with h | h
    · exact (D2.out b2 h).2
    · have := HB1.out.lt
      omega
  have hne12 : b1 ≠ b2 := by
    rcases hor2' with h | h
    · intro hk
      exact HGG1.out (h.trans (by rw [hk]))
    · omega
  have hfin : Below B w w2 := by
    have e1 := HF1.out.below h0 (fun k hk hs => by have := (D1.out k hs).1; omega)
    have e2 := (hfs.alloc (.cells #[.int .i64 t] 3)).below (B := B) (Nat.le_trans h0 HF1.out.size) (fun k hk hs => by omega)
    have e3 := hf2.below (B := B) (Nat.le_trans h0 (Nat.le_trans HF1.out.size (hfs.alloc (.cells #[.int .i64 t] 3)).size)) (fun k hk hs => by have := (D2.out k hs).1; omega)
    exact (e1.trans e2).trans e3
  have c0 : w2.cell? ⟨b, 0, none⟩ = some (.int .i64 n) := hb2.cell 0
  have c3 : w2.cell? ⟨b, 3, none⟩ = some (.slice (some ⟨b1, off1, none⟩) (L.length + 1) cap1) := hb2.cell 3
  have c4 : w2.cell? ⟨b, 4, none⟩ = some vg := hb2.cell 4
  have f4 : w2.frozen? ⟨b, 4, none⟩ = false := hb2.frozen 4
  have f3' : w2.frozen? ⟨b, 3, none⟩ = false := hb2.frozen 3
  have hpost : Blk (w2.setCell ⟨b, 4, none⟩ (.slice (some ⟨b2, off2, none⟩) (L.length + 1) cap2)) b #[.int .i64 n, .int .i64 g, .int .i64 o, .slice (some ⟨b1, off1, none⟩) (L.length + 1) cap1, .slice (some ⟨b2, off2, none⟩) (L.length + 1) cap2] 45 ∧
      Holds (w2.setCell ⟨b, 4, none⟩ (.slice (some ⟨b2, off2, none⟩) (L.length + 1) cap2)) (some b1) 1 (.slice (some ⟨b1, off1, none⟩) (L.length + 1) cap1) (L.length + 1) (sents (L ++ [(s, t)])) ∧
      Holds (w2.setCell ⟨b, 4, none⟩ (.slice (some ⟨b2, off2, none⟩) (L.length + 1) cap2)) (some b2) 1 (.slice (some ⟨b2, off2, none⟩) (L.length + 1) cap2) (L.length + 1) (gots (L ++ [(s, t)])) ∧
      Below B w (w2.setCell ⟨b, 4, none⟩ (.slice (some ⟨b2, off2, none⟩) (L.length + 1) cap2)) := by
    have hk : Fr (fun k => k = b) w2 (w2.setCell ⟨b, 4, none⟩ (.slice (some ⟨b2, off2, none⟩) (L.length + 1) cap2)) := fr_set _ _ _ _
    refine ⟨?_, ?_, ?_, hfin.trans (hk.below (Nat.le_trans h0 hfin.size) (fun k hk hs => by omega))⟩
    · have := hb2.set 4 (.slice (some ⟨b2, off2, none⟩) (L.length + 1) cap2)
      simpa using this
    · have := hs2.keep hk (fun k hk h => hne1 ((Option.some.inj hk).trans h))
      simpa [sents] using this
    · have := hh2.keep hk (fun k hk h => hne2 ((Option.some.inj hk).trans h))
      simpa [gots] using this
  have HPost := Lib.hid hpost
  clear hpost hfin hb2 hs2 hB1' hfs hf2 hh2 hor2 hor2' hlt2
  by_cases hfull : (L.length : Int) < n
  · have hnl : ¬ n < (L.length : Int) + 1 := by omega
    have hadd : add1 n L (s, t) = L ++ [(s, t)] := by unfold add1; rw [if_pos hfull]
    have HA := Lib.hid hadd; clear hadd
    go_wp2_with fail
    go_quiet (fail)
    go_wp2
    go_ret
    refine ⟨rfl, (below_drewN HPost.out.2.2.2 nq), some b1, some b2, _, _, HPost.out.1, ?_, ?_, ?_, ?_, ?_⟩
    · have := HPost.out.2.1.drewN nq
      rw [HA.out]; simpa using this
    · have := HPost.out.2.2.1.drewN nq
      rw [HA.out]; simpa using this
    · intro k hk; cases hk; exact ⟨hB1, hne1⟩
    · intro k hk; cases hk; exact ⟨hB2, hne2⟩
    · intro k hk h; cases hk; exact hne12 (Option.some.inj h).symm
  · have hnl : n < (L.length : Int) + 1 := by omega
    have hadd : add1 n L (s, t) = (L ++ [(s, t)]).tail := by unfold add1; rw [if_neg hfull]
    have HA := Lib.hid hadd; clear hadd
    go_wp2_with fail
    go_quiet (fail)
    by_cases hc1 : cap1 = 1 <;> by_cases hc2 : cap2 = 1
    all_goals
      go_wp2
      go_ret
      have hbel := below_drewN HPost.out.2.2.2 nq
      have hend := full_end B b b1 off1 cap1 b2 off2 cap2 n g o L (s, t) _ hB (Nat.le_trans h0 hbel.size) (HPost.out.1.drewN nq) (HPost.out.2.1.drewN nq) (HPost.out.2.2.1.drewN nq) hne1 hne2 _ _ rfl rfl
      simp only [hc1, hc2, if_true, if_false, Nat.sub_self] at hend hbel
      refine ⟨rfl, hbel.trans hend.2.2.2, some b1, some b2, _, _, hend.1, ?_, ?_, ?_, ?_, ?_⟩
      · rw [HA.out, tail_length]; exact hend.2.1
      · rw [HA.out, tail_length]; exact hend.2.2.1
      · intro k hk; cases hk; exact ⟨hB1, hne1⟩
      · intro k hk; cases hk; exact ⟨hB2, hne2⟩
      · intro k hk h; cases hk; exact hne12 (Option.some.inj h).symm

end Go.Proofs.Ytbjahlapajfcaaa
