/- Walks over package quality: New, Add, Good, Num. -/
import Derived.Test.YtbjahlapajfcaaaRing
import Derived.BigQuiet
import Derived.BigRegion
import Derived.Deep.QuietTactic
namespace Go.Proofs.Ytbjahlapajfcaaa
open Go.RowKit

set_option maxHeartbeats 400000 in
theorem num_any (a : Int) (w : World) :
    Calls Try.prog 11 #[.int .i64 a] w fun e w' => e = .returned (.int .i64 a) ∧ w = w' := by
  go_enter Try.func11, Try.ntmps11
  go_wp2
  go_ret
  exact ⟨rfl, rfl⟩

set_option maxHeartbeats 400000 in
theorem new_bad (n g o : Int) (w : World) (h : n < 1 ∨ 32 < n ∨ o < 1 ∨ 1000 < o ∨ g < 0 ∨ o < g) :
    Calls Try.prog 9 #[.int .i64 n, .int .i64 g, .int .i64 o] w fun e w' => e = .returned (.tuple #[.pointer none, .int .i64 1700]) ∧ w = w' := by
  go_enter Try.func9, Try.ntmps9
  go_wp2
  all_goals go_ret2
  all_goals exact ⟨rfl, rfl⟩

theorem info41 : (Try.prog.info? 41).map (fun i => (i.zero, i.size, i.bytes)) = some (some (.agg #[.int .i64 0, .int .i64 0]), 2, 16) := by kernel_rfl

theorem make_ring (n : Nat) (hn : n ≤ 1000) (w : World) :
    (Instr.makeSlice 39 (.int .i64 (n : Int)) (.int .i64 (n : Int))).run Try.prog w = .ok (.slice (some ⟨w.heap.size, 0, none⟩) n n) (w.alloc (.cells (madeCells #[.int .i64 0, .int .i64 0] (n * 2)) 41)) := by
  obtain ⟨i, hi, hz, hs, hb⟩ := info_parts info41
  have hr := run_make (P := Try.prog) w 39 41 i (.agg #[.int .i64 0, .int .i64 0]) Try.underlying39 hi hz .i64 .i64 n n (by omega) (Int.le_refl _) (by rw [hb]; omega) (by omega)
  simp only [Int.toNat_natCast, hs] at hr
  exact hr

set_option maxHeartbeats 400000 in
theorem new_good (n : Nat) (g o : Int) (w : World) (h1 : 1 ≤ n) (h2 : n ≤ 32) (h3 : 1 ≤ o) (h4 : o ≤ 1000) (h5 : 0 ≤ g) (h6 : g ≤ o) :
    Calls Try.prog 9 #[.int .i64 (n : Int), .int .i64 g, .int .i64 o] w fun e w' => e = .returned (.tuple #[.pointer (some ⟨w.heap.size + 1, 0, none⟩), .int .i64 0]) ∧
      w' = (w.alloc (.cells (madeCells #[.int .i64 0, .int .i64 0] (n * 2)) 41)).alloc (.cells #[.int .i64 g, .int .i64 o, .slice (some ⟨w.heap.size, 0, none⟩) n n, .int .i64 0, .int .i64 0, .int .i64 0] 43) := by
  have hmk := fun wx => make_ring n (by omega) wx
  go_enter Try.func9, Try.ntmps9
  go_wp2
  go_ret2
  exact ⟨rfl, rfl⟩

set_option maxHeartbeats 400000 in
theorem good_any (b : Nat) (sl : Value) (g o at' ss sg : Int) (w : World) (hb : Blk w b #[.int .i64 g, .int .i64 o, sl, .int .i64 at', .int .i64 ss, .int .i64 sg] 43) 
    (hg : 0 ≤ g ∧ g ≤ 1000) (ho : 0 ≤ o ∧ o ≤ 1000) (hss : 0 ≤ ss ∧ ss ≤ 100000000000) (hsg : 0 ≤ sg ∧ sg ≤ 100000000000) :
    Calls Try.prog 15 #[.pointer (some ⟨b, 0, none⟩)] w fun e w' => e = .returned (.bool (decide (ss * g ≤ sg * o))) ∧ ∃ n, w' = w.drewN n := by
  have c0 : w.cell? ⟨b, 0, none⟩ = some (.int .i64 g) := hb.cell 0
  have c1 : w.cell? ⟨b, 1, none⟩ = some (.int .i64 o) := hb.cell 1
  have c4 : w.cell? ⟨b, 4, none⟩ = some (.int .i64 ss) := hb.cell 4
  have c5 : w.cell? ⟨b, 5, none⟩ = some (.int .i64 sg) := hb.cell 5
  have m1 : 0 ≤ ss * g := Int.mul_nonneg hss.1 hg.1
  have m2 : 0 ≤ sg * o := Int.mul_nonneg hsg.1 ho.1
  have m3 : ss * g ≤ 100000000000 * 1000 := Int.mul_le_mul hss.2 hg.2 hg.1 (by omega)
  have m4 : sg * o ≤ 100000000000 * 1000 := Int.mul_le_mul hsg.2 ho.2 ho.1 (by omega)
  clear hb
  go_enter Try.func15, Try.ntmps15
  go_wp2
  go_quiet (fail)
  go_wp2
  go_ret
  exact ⟨rfl, _, rfl⟩

set_option maxHeartbeats 1000000 in
theorem add_good (b r n i : Nat) (g o ss sg s t os og : Int) (ring : Array Value) (w : World)
    (hb : Blk w b #[.int .i64 g, .int .i64 o, .slice (some ⟨r, 0, none⟩) n n, .int .i64 i, .int .i64 ss, .int .i64 sg] 43)
    (hr : Blk w r ring 41) (hbr : r ≠ b) (hi : i < n) (hn : n ≤ 32) (ho1 : ring[i * 2]? = some (.int .i64 os)) (ho2 : ring[i * 2 + 1]? = some (.int .i64 og))
    (hs : 0 ≤ s ∧ s ≤ 2147483647) (ht : 0 ≤ t ∧ t ≤ s) (hos : 0 ≤ os ∧ os ≤ 2147483647) (hog : 0 ≤ og ∧ og ≤ 2147483647) (hss : 0 ≤ ss ∧ ss ≤ 100000000000) (hsg : 0 ≤ sg ∧ sg ≤ 100000000000) :
    Calls Try.prog 13 #[.pointer (some ⟨b, 0, none⟩), .int .i64 s, .int .i64 t] w fun e w' => e = .returned (.int .i64 0) ∧
      ∃ nd, w' = ((((((w.setCell ⟨b, 4, none⟩ (.int .i64 (ss + (s - os)))).setCell ⟨b, 5, none⟩ (.int .i64 (sg + (t - og)))).setCell ⟨r, i * 2, none⟩ (.int .i64 s)).setCell ⟨r, i * 2 + 1, none⟩ (.int .i64 t)).setCell ⟨b, 3, none⟩ (.int .i64 (((i : Int) + 1) % (n : Int))))).drewN nd := by
  have c0 : w.cell? ⟨b, 0, none⟩ = some (.int .i64 g) := hb.cell 0
  have c1 : w.cell? ⟨b, 1, none⟩ = some (.int .i64 o) := hb.cell 1
  have c2 : w.cell? ⟨b, 2, none⟩ = some (.slice (some ⟨r, 0, none⟩) n n) := hb.cell 2
  have c3 : w.cell? ⟨b, 3, none⟩ = some (.int .i64 i) := hb.cell 3
  have c4 : w.cell? ⟨b, 4, none⟩ = some (.int .i64 ss) := hb.cell 4
  have c5 : w.cell? ⟨b, 5, none⟩ = some (.int .i64 sg) := hb.cell 5
  have r1 : w.cell? ⟨r, i * 2, none⟩ = some (.int .i64 os) := (hr.cell _).trans ho1
  have r2 : w.cell? ⟨r, i * 2 + 1, none⟩ = some (.int .i64 og) := (hr.cell _).trans ho2
  have f3 := hb.frozen 3
  have f4 := hb.frozen 4
  have f5 := hb.frozen 5
  have g1 := hr.frozen (i * 2)
  have g2 := hr.frozen (i * 2 + 1)
  clear hb hr ho1 ho2
  go_enter Try.func13, Try.ntmps13
  go_wp2
  go_quiet (fail)
  go_wp2
  go_region
  go_wp2
  go_region
  go_wp2
  go_region
  go_wp2
  go_ret
  exact ⟨rfl, nq + 3, rfl⟩

/-- The object at block b, its ring at block r: the share g of o, the last reports L. -/
def IsQ (w : World) (r b : Nat) (g o : Int) (L : List (Int × Int)) : Prop :=
  ∃ (R : List (Int × Int)) (i : Nat), R.length ≤ 32 ∧ i < R.length ∧ rot R i = L ∧ (∀ p ∈ L, Fine p) ∧ r ≠ b ∧ 0 ≤ g ∧ g ≤ o ∧ 1 ≤ o ∧ o ≤ 1000 ∧
    Blk w b #[.int .i64 g, .int .i64 o, .slice (some ⟨r, 0, none⟩) R.length R.length, .int .i64 i, .int .i64 (sumS L), .int .i64 (sumG L)] 43 ∧ Blk w r (ringArr R) 41

/-- Is it good? -/
def gd (L : List (Int × Int)) (g o : Int) : Bool := decide (sumS L * g ≤ sumG L * o)

theorem IsQ.keep {w w' : World} {r b : Nat} {g o : Int} {L : List (Int × Int)} {S : Nat → Prop} (h : IsQ w r b g o L) (hf : Fr S w w') (h1 : ¬ S r) (h2 : ¬ S b) : IsQ w' r b g o L := by
  obtain ⟨R, i, a1, a2, a3, a4, a5, a6, a7, a8, a9, hb, hr⟩ := h
  exact ⟨R, i, a1, a2, a3, a4, a5, a6, a7, a8, a9, hb.keep hf h2, hr.keep hf h1⟩

theorem IsQ.drewN {w : World} {r b : Nat} {g o : Int} {L : List (Int × Int)} (n : Nat) (h : IsQ w r b g o L) : IsQ (w.drewN n) r b g o L := h

theorem IsQ.lt {w : World} {r b : Nat} {g o : Int} {L : List (Int × Int)} (h : IsQ w r b g o L) : r < w.heap.size ∧ b < w.heap.size := by
  obtain ⟨R, i, a1, a2, a3, a4, a5, a6, a7, a8, a9, hb, hr⟩ := h
  exact ⟨hr.lt, hb.lt⟩

theorem new_ok (n g o : Int) (w : World) (h1 : 1 ≤ n) (h2 : n ≤ 32) (h3 : 1 ≤ o) (h4 : o ≤ 1000) (h5 : 0 ≤ g) (h6 : g ≤ o) :
    Calls Try.prog 9 #[.int .i64 n, .int .i64 g, .int .i64 o] w fun e w' => ∃ r b, e = .returned (.tuple #[.pointer (some ⟨b, 0, none⟩), .int .i64 0]) ∧
      IsQ w' r b g o (List.replicate n.toNat (0, 0)) ∧ w.heap.size ≤ r ∧ w.heap.size ≤ b ∧ Same w w' := by
  obtain ⟨m, rfl⟩ := Int.eq_ofNat_of_zero_le (a := n) (by omega)
  refine (new_good m g o w (by omega) (by omega) h3 h4 h5 h6).mono fun e w' ⟨he, hw⟩ => ⟨w.heap.size, w.heap.size + 1, he, ?_, Nat.le_refl _, by omega, ?_⟩
  · subst hw
    refine ⟨List.replicate m (0, 0), 0, by simp; omega, by simp; omega, by simp [rot], ?_, by omega, h5, h6, h3, h4, ?_, ?_⟩
    · intro p hp
      have := List.eq_of_mem_replicate hp
      subst this
      unfold Fine; omega
    · have hs : (w.alloc (.cells (madeCells #[.int .i64 0, .int .i64 0] (m * 2)) 41)).heap.size = w.heap.size + 1 := by simp
      have := Blk.new (w.alloc (.cells (madeCells #[.int .i64 0, .int .i64 0] (m * 2)) 41)) #[.int .i64 g, .int .i64 o, .slice (some ⟨w.heap.size, 0, none⟩) m m, .int .i64 0, .int .i64 0, .int .i64 0] 43
      rw [hs] at this
      simpa [sumS_replicate, sumG_replicate] using this
    · rw [← made_ring]
      exact (Blk.new _ _ _).alloc _
  · subst hw
    exact ((Fr.refl _ _).alloc _).alloc _

theorem good_ok {w : World} {r b : Nat} {g o : Int} {L : List (Int × Int)} (h : IsQ w r b g o L) :
    Calls Try.prog 15 #[.pointer (some ⟨b, 0, none⟩)] w fun e w' => e = .returned (.bool (gd L g o)) ∧ ∃ n, w' = w.drewN n := by
  obtain ⟨R, i, a1, a2, a3, a4, a5, a6, a7, a8, a9, hb, hr⟩ := h
  have hl : L.length = R.length := by rw [← a3, length_rot]
  have hs := sums_bound L a4
  exact good_any b _ g o _ _ _ w hb ⟨a6, by omega⟩ ⟨by omega, a9⟩ ⟨by omega, by omega⟩ ⟨by omega, by omega⟩

theorem add_ok {w : World} {r b : Nat} {g o : Int} {L : List (Int × Int)} (h : IsQ w r b g o L) (s t : Int) (hp : Fine (s, t)) :
    Calls Try.prog 13 #[.pointer (some ⟨b, 0, none⟩), .int .i64 s, .int .i64 t] w fun e w' => e = .returned (.int .i64 0) ∧ IsQ w' r b g o (push L (s, t)) ∧ Fr (fun k => k = r ∨ k = b) w w' := by
  obtain ⟨R, i, a1, a2, a3, a4, a5, a6, a7, a8, a9, hb, hr⟩ := h
  have hl : L.length = R.length := by rw [← a3, length_rot]
  have hs := sums_bound L a4
  have hq := ringArr_get R i a2
  have hf : Fine R[i] := a4 _ (a3 ▸ mem_rot (List.getElem_mem a2))
  have hp' := hp
  unfold Fine at hf hp'
  refine (add_good b r R.length i g o (sumS L) (sumG L) s t R[i].1 R[i].2 (ringArr R) w hb hr a5 a2 a1 hq.1 hq.2 ⟨by omega, by omega⟩ ⟨by omega, by omega⟩ ⟨by omega, by omega⟩ ⟨by omega, by omega⟩ ⟨by omega, by omega⟩ ⟨by omega, by omega⟩).mono fun e w' ⟨he, nd, hw⟩ => ⟨he, ?_, ?_⟩
  · subst hw
    have hset := rot_set R i (s, t) a2
    rw [a3] at hset
    have hsum := sum_set R i (s, t) a2
    have hr1 := sum_rot R i
    have hr2 := sum_rot (R.set i (s, t)) ((i + 1) % R.length)
    rw [a3] at hr1
    rw [hset] at hr2
    refine IsQ.drewN nd ⟨R.set i (s, t), (i + 1) % R.length, by simpa using a1, by simpa using Nat.mod_lt _ (by omega), hset, fine_push a4 hp, a5, a6, a7, a8, a9, ?_, ?_⟩
    · have e1 : sumS (push L (s, t)) = sumS L + (s - R[i].1) := by rw [hr2.1, hsum.1, hr1.1]
      have e2 : sumG (push L (s, t)) = sumG L + (t - R[i].2) := by rw [hr2.2, hsum.2, hr1.2]
      have k1 := hb.set 4 (.int .i64 (sumS L + (s - R[i].1)))
      have k2 := k1.set 5 (.int .i64 (sumG L + (t - R[i].2)))
      have k3 := k2.setOther (p := ⟨r, i * 2, none⟩) (fun e => a5 e.symm) (.int .i64 s)
      have k4 := k3.setOther (p := ⟨r, i * 2 + 1, none⟩) (fun e => a5 e.symm) (.int .i64 t)
      have k5 := k4.set 3 (.int .i64 (((i : Int) + 1) % (R.length : Int)))
      rw [e1, e2]
      simpa using k5
    · have k1 := hr.setOther (p := ⟨b, 4, none⟩) a5 (.int .i64 (sumS L + (s - R[i].1)))
      have k2 := k1.setOther (p := ⟨b, 5, none⟩) a5 (.int .i64 (sumG L + (t - R[i].2)))
      have k3 := k2.set (i * 2) (.int .i64 s)
      have k4 := k3.set (i * 2 + 1) (.int .i64 t)
      have k5 := k4.setOther (p := ⟨b, 3, none⟩) a5 (.int .i64 (((i : Int) + 1) % (R.length : Int)))
      rw [ringArr_set R i s t a2] at k5
      exact k5
  · subst hw
    exact Fr.drewN nd ((((((Fr.refl _ _).setCell (Or.inr (Or.inr rfl)) _).setCell (Or.inr (Or.inr rfl)) _).setCell (Or.inr (Or.inl rfl)) _).setCell (Or.inr (Or.inl rfl)) _).setCell (Or.inr (Or.inr rfl)) _)

set_option maxHeartbeats 400000 in
theorem add_bad (b : Nat) (s t : Int) (w : World) (h : s < 0 ∨ 2147483647 < s ∨ t < 0 ∨ s < t) :
    Calls Try.prog 13 #[.pointer (some ⟨b, 0, none⟩), .int .i64 s, .int .i64 t] w fun e w' => e = .returned (.int .i64 1700) ∧ w = w' := by
  go_enter Try.func13, Try.ntmps13
  go_wp2
  all_goals go_ret
  all_goals exact ⟨rfl, rfl⟩

end Go.Proofs.Ytbjahlapajfcaaa
