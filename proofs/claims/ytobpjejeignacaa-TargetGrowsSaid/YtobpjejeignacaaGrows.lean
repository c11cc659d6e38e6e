/- The walk over TargetGrows: it returns true. -/
import Derived.Test.YtobpjejeignacaaAwake
namespace Go.Proofs.Ytobpjejeignacaa
open Go.RowKit

theorem and_mask (n m : Int) (k : Nat) (hk : k ≤ 62) (hm : (BitVec.ofInt 64 m).toNat = 2 ^ k - 1) : bits .and .i64 n m = n % ((2 ^ k : Nat) : Int) := by
  have key : (BitVec.ofInt 64 n &&& BitVec.ofInt 64 m).toNat = (n % ((2 ^ 64 : Nat) : Int)).toNat % 2 ^ k := by
    rw [BitVec.toNat_and, BitVec.toNat_ofInt, hm, Nat.and_two_pow_sub_one_eq_mod]
  show IntKind.i64.wrap ((BitVec.ofInt 64 n &&& BitVec.ofInt 64 m).toNat : Nat) = _
  rw [key, IntKind.wrap_i64]
  have hp : (2 : Nat) ^ k ≤ 2 ^ 62 := Nat.pow_le_pow_right (by omega) hk
  have hpos : 0 < (2 : Nat) ^ k := Nat.pos_of_ne_zero (by simp)
  have hd : (2 : Nat) ^ k ∣ 2 ^ 64 := Nat.pow_dvd_pow 2 (by omega)
  have e1 : (((n % ((2 ^ 64 : Nat) : Int)).toNat % 2 ^ k : Nat) : Int) = n % ((2 ^ k : Nat) : Int) := by
    rw [Int.natCast_emod, Int.toNat_of_nonneg (Int.emod_nonneg _ (by decide))]
    exact Int.emod_emod_of_dvd n (Int.natCast_dvd_natCast.2 hd)
  have hlt : (n % ((2 ^ 64 : Nat) : Int)).toNat % 2 ^ k < 2 ^ k := Nat.mod_lt _ hpos
  rw [e1]
  have h1 : 0 ≤ n % ((2 ^ k : Nat) : Int) := Int.emod_nonneg _ (by omega)
  have h2 : n % ((2 ^ k : Nat) : Int) < ((2 ^ k : Nat) : Int) := Int.emod_lt_of_pos _ (by omega)
  have h3 : ((2 ^ k : Nat) : Int) ≤ ((2 ^ 62 : Nat) : Int) := Int.ofNat_le.2 hp
  have h4 : ((2 ^ 62 : Nat) : Int) = 4611686018427387904 := by decide
  omega

@[go_sem] theorem and20 (n : Int) : bits .and .i64 n 1048575 = n % 1048576 := and_mask n 1048575 20 (by decide) (by decide)

theorem ceil_low (x r : Int) (h0 : 0 ≤ x) (hr : 1 ≤ r) : x ≤ ceilI x r * r ∧ (ceilI x r - 1) * r < x + r ∧ (1 ≤ x → (ceilI x r - 1) * r < x) ∧ 0 ≤ ceilI x r ∧ (x = 0 → ceilI x r = 0) := by
  have e := Int.mul_ediv_add_emod x r
  have m0 := Int.emod_nonneg x (show r ≠ 0 by omega)
  have m1 := Int.emod_lt_of_pos x (show 0 < r by omega)
  have q0 : 0 ≤ x / r := Int.ediv_nonneg h0 (by omega)
  unfold ceilI
  rw [Int.mul_comm] at e
  generalize x % r = m at *
  split
  · rename_i hm
    have e2 : (x / r + 1) * r = x / r * r + r := by rw [Int.add_mul, Int.one_mul]
    have e3 : x / r + 1 - 1 = x / r := by omega
    rw [e2, e3]
    refine ⟨by omega, by omega, fun _ => by omega, by omega, fun hx => ?_⟩
    subst hx
    rw [Int.zero_ediv] at e
    omega
  · rename_i hm
    have hm0 : m = 0 := by omega
    have e2 : (x / r + 0 - 1) * r = x / r * r - r := by rw [Int.add_zero, Int.sub_mul, Int.one_mul]
    rw [e2, Int.add_zero]
    refine ⟨by omega, by omega, fun _ => by omega, q0, fun hx => ?_⟩
    rw [hx, Int.zero_ediv]

theorem ceil_mono (x y r : Int) (h : x ≤ y) (h0 : 0 ≤ x) (hr : 1 ≤ r) : ceilI x r ≤ ceilI y r := by
  by_cases hc : ceilI x r ≤ ceilI y r
  · exact hc
  · exfalso
    have a := ceil_low x r h0 hr
    have b := ceil_low y r (by omega) hr
    have h1 : ceilI y r ≤ ceilI x r - 1 := by omega
    have h2 : ceilI y r * r ≤ (ceilI x r - 1) * r := Int.mul_le_mul_of_nonneg_right h1 (by omega)
    have hx : 1 ≤ x := by
      by_cases hx : x = 0
      · have := a.2.2.2.2 hx; omega
      · omega
    have := a.2.2.1 hx
    omega

/-- What TargetGrows asks of the numbers. -/
theorem grows_law (lo hi r least links : Int) (h0 : 0 ≤ lo) (h : lo ≤ hi) (hr : 64 ≤ r) (hr2 : r ≤ 4096) (h1 : 1 ≤ least) (h2 : least ≤ links) (_h3 : links ≤ 6) :
    cnt lo r least links ≤ cnt hi r least links ∧ least ≤ cnt lo r least links ∧ cnt hi r least links ≤ links ∧ cnt 0 r least links = least ∧
    (hi ≤ cnt hi r least links * r ∨ cnt hi r least links = links) ∧ (cnt hi r least links = least ∨ (cnt hi r least links - 1) * r < hi) := by
  have hm := ceil_mono lo hi r h h0 (by omega)
  have a := ceil_low hi r (by omega) (by omega)
  have z := (ceil_low 0 r (by omega) (by omega)).2.2.2.2 rfl
  unfold cnt
  rw [z]
  generalize hc : ceilI hi r = c at *
  generalize ceilI lo r = b at *
  refine ⟨by omega, by omega, by omega, by omega, ?_, ?_⟩
  · by_cases hl : min (max c least) links = links
    · exact Or.inr hl
    · refine Or.inl ?_
      have : c ≤ min (max c least) links := by omega
      have := Int.mul_le_mul_of_nonneg_right this (show 0 ≤ r by omega)
      omega
  · by_cases hl : min (max c least) links = least
    · exact Or.inl hl
    · refine Or.inr ?_
      have h4 : min (max c least) links - 1 ≤ c - 1 := by omega
      have h5 := Int.mul_le_mul_of_nonneg_right h4 (show 0 ≤ r by omega)
      have hx : 1 ≤ hi := by
        by_cases hx : hi = 0
        · have := a.2.2.2.2 hx; omega
        · omega
      have := a.2.2.1 hx
      omega

theorem q_bounds (q r : Int) (h1 : 1 ≤ q) (h2 : q ≤ 6) (h3 : 64 ≤ r) (h4 : r ≤ 4096) : 0 ≤ q * r ∧ q * r ≤ 24576 ∧ 0 ≤ (q - 1) * r ∧ (q - 1) * r ≤ 24576 := by
  have a := Int.mul_nonneg (show 0 ≤ q by omega) (show 0 ≤ r by omega)
  have b : q * r ≤ 6 * 4096 := Int.mul_le_mul h2 h4 (by omega) (by omega)
  have c := Int.mul_nonneg (show 0 ≤ q - 1 by omega) (show 0 ≤ r by omega)
  have d : (q - 1) * r ≤ 6 * 4096 := Int.mul_le_mul (by omega) h4 (by omega) (by omega)
  omega

set_option maxRecDepth 100000 in
set_option maxHeartbeats 2000000 in
theorem grows_bad (x y : Int) (c : Cfg) (cs : Array Value) (hc : IsCfg c cs) (w : World) (h : mayB c = false) :
    Calls Try.prog 4 #[.int .i64 x, .int .i64 y, .agg cs] w fun e w' => e = .returned (.bool true) ∧ Below w.heap.size w w' := by
  have hb := Blk.new w cs 23
  have HM := Lib.hid h; clear h
  have hs := (Fr.refl (fun _ => False) w).alloc (.cells cs 23)
  go_enter Try.func4, Try.ntmps4
  go_upto_region 1 with fail
  generalize w.alloc (.cells cs 23) = w1 at *
  generalize hg : w.heap.size = g at *
  have B1 := Lib.hid hb; clear hb
  have S1 := Lib.hid hs; clear hs
  have HG := Lib.hid hg; clear hg
  go_wp2_with fail
  refine (awake_ok _).mono ?_
  rintro e w2 ⟨rfl, hs2⟩
  have B2 := Lib.hid (B1.out.keep hs2 id)
  have S2 := Lib.hid (S1.out.trans hs2); clear hs2 B1 S1
  go_wp2_with (refine wpList_load_row rfl 23 _ rfl _ rfl 23 cs (0, 0) _ B2.out Try.underlying23 rfl hc.size ?_)
  refine (may_cs hc _ false HM.out).mono ?_
  rintro e w3 ⟨rfl, rfl⟩
  go_wp2_with fail
  go_ret
  exact ⟨rfl, HG.out ▸ Same.below (S2.out.alloc _)⟩

set_option maxRecDepth 100000 in
set_option maxHeartbeats 8000000 in
theorem grows_lt (x y : Int) (c : Cfg) (cs : Array Value) (hc : IsCfg c cs) (w : World) (h : mayB c = true) (hxy0 : x % 1048576 < y % 1048576) :
    Calls Try.prog 4 #[.int .i64 x, .int .i64 y, .agg cs] w fun e w' => e = .returned (.bool true) ∧ Below w.heap.size w w' := by
  obtain ⟨b1, b2, b3, b4, b5⟩ := may_bounds h
  have hb := Blk.new w cs 23
  have HM := Lib.hid h; clear h
  have hs := (Fr.refl (fun _ => False) w).alloc (.cells cs 23)
  obtain ⟨lo, hi, hlo, hhi, h0, hlh, hmax⟩ : ∃ lo hi, min (x % 1048576) (y % 1048576) = lo ∧ max (x % 1048576) (y % 1048576) = hi ∧ 0 ≤ lo ∧ lo ≤ hi ∧ hi ≤ 1048576 := ⟨_, _, rfl, rfl, by omega, by omega, by omega⟩
  obtain ⟨g1, g2, g3, g4, g5, g6⟩ := grows_law lo hi c.rate c.least c.links h0 hlh b1 b2 b3 b4 b5
  have qb := q_bounds (cnt hi c.rate c.least c.links) c.rate (by omega) (by omega) b1 b2
  have HLO := Lib.hid hlo; clear hlo
  have HHI := Lib.hid hhi; clear hhi
  go_enter Try.func4, Try.ntmps4
  go_upto_region 1 with fail
  generalize w.alloc (.cells cs 23) = w1 at *
  generalize hg : w.heap.size = g at *
  have B1 := Lib.hid hb; clear hb
  have S1 := Lib.hid hs; clear hs
  have HG := Lib.hid hg; clear hg
  have G4 := Lib.hid g4; clear g4
  have G5 := Lib.hid g5; clear g5
  have G6 := Lib.hid g6; clear g6
  obtain ⟨p, hp⟩ : ∃ p, cnt lo c.rate c.least c.links = p := ⟨_, rfl⟩
  obtain ⟨q, hq⟩ : ∃ q, cnt hi c.rate c.least c.links = q := ⟨_, rfl⟩
  rw [hp] at g1 g2
  rw [hq] at g1 g3 G5 G6 qb
  have HP := Lib.hid hp; clear hp
  have HQ := Lib.hid hq; clear hq
  have HF : Hid ((hi ≤ q * c.rate) ∨ (¬ (hi ≤ q * c.rate) ∧ q = c.links)) := Lib.hid (G5.out.elim Or.inl fun h => (Classical.em (hi ≤ q * c.rate)).elim Or.inl fun hn => Or.inr ⟨hn, h⟩)
  have HE : Hid (q = c.least ∨ ((q == c.least) = false ∧ (q - 1) * c.rate < hi)) := Lib.hid ((Classical.em (q = c.least)).elim Or.inl fun hn => Or.inr ⟨beq_eq_false_iff_ne.2 hn, G6.out.elim (fun h => absurd h hn) id⟩)
  clear G5 G6
  go_wp2_with fail
  refine (awake_ok _).mono ?_
  rintro e w2 ⟨rfl, hs2⟩
  have B2 := Lib.hid (B1.out.keep hs2 id)
  have S2 := Lib.hid (S1.out.trans hs2); clear hs2 B1 S1
  go_wp2_with (refine wpList_load_row rfl 23 _ rfl _ rfl 23 cs (0, 0) _ B2.out Try.underlying23 rfl hc.size ?_)
  refine (may_cs hc _ true HM.out).mono ?_
  rintro e w3 ⟨rfl, rfl⟩
  have B3 : Hid (Blk (w2.alloc (.cells cs 23)) g cs 23) := Lib.hid (B2.out.alloc _)
  have S3 : Hid (Same w (w2.alloc (.cells cs 23))) := Lib.hid (S2.out.alloc _)
  clear B2 S2
  generalize w2.alloc (.cells cs 23) = w3 at *
  have hxy := hxy0
  clear hxy0
  generalize hX : x % 1048576 = X at *
  generalize hY : y % 1048576 = Y at *
  obtain ⟨A, hA⟩ : ∃ A, lo = A := ⟨_, rfl⟩
  obtain ⟨D, hD⟩ : ∃ D, hi = D := ⟨_, rfl⟩
  have hcase : X = lo ∧ Y = hi := by have := HLO.out; have := HHI.out; omega
  clear HLO HHI hA hD
  obtain ⟨rfl, rfl⟩ := hcase
  all_goals
    go_wp2_with (refine wpList_load_row rfl 23 _ rfl _ rfl 23 cs (0, 0) _ B3.out Try.underlying23 rfl hc.size ?_)
    refine (links_ok _ c cs hc _ HM.out (by omega) (by omega)).mono ?_
    rintro e w4 ⟨rfl, hs4⟩
    rw [HP.out]
    have B4 := Lib.hid (B3.out.keep hs4 id)
    have S4 := Lib.hid (S3.out.trans hs4); clear hs4 B3 S3
    go_wp2_with (refine wpList_load_row rfl 23 _ rfl _ rfl 23 cs (0, 0) _ B4.out Try.underlying23 rfl hc.size ?_)
    refine (links_ok _ c cs hc _ HM.out (by omega) (by omega)).mono ?_
    rintro e w5 ⟨rfl, hs5⟩
    rw [HQ.out]
    have B5 := Lib.hid (B4.out.keep hs5 id)
    have S5 := Lib.hid (S4.out.trans hs5); clear hs5 B4 S4
    go_wp2_with (refine wpList_load_row rfl 23 _ rfl _ rfl 23 cs (0, 0) _ B5.out Try.underlying23 rfl hc.size ?_)
    refine (links_ok 0 c cs hc _ HM.out (by omega) (by omega)).mono ?_
    rintro e w6 ⟨rfl, hs6⟩
    rw [G4.out]
    have hb6 := B5.out.keep hs6 id
    have c1 : w6.cell? ⟨g, 1, none⟩ = some (.int .i64 c.links) := (hb6.cell 1).trans hc.links
    have c2 : w6.cell? ⟨g, 2, none⟩ = some (.int .i64 c.least) := (hb6.cell 2).trans hc.least
    have c3 : w6.cell? ⟨g, 3, none⟩ = some (.int .i64 c.rate) := (hb6.cell 3).trans hc.rate
    have S6 := Lib.hid (S5.out.trans hs6); clear hs6 hb6 B5 S5
    clear HP HQ G4
    obtain ⟨m1, m2, m3, m4⟩ := qb
    have hF := HF.out
    have hE := HE.out
    clear HF HE
    clear HM hc
    generalize c.links = K at *
    generalize c.least = E at *
    generalize c.rate = R at *
    rcases hF with hf | ⟨hf, rfl⟩ <;> rcases hE with rfl | ⟨he, he2⟩
    all_goals
      go_wp2_with (go_at_call 9; refine (num_any _ _).mono ?_; rintro e w7 ⟨rfl, rfl⟩)
      go_ret
      exact ⟨rfl, HG.out ▸ Same.below S6.out⟩

set_option maxRecDepth 100000 in
set_option maxHeartbeats 8000000 in
theorem grows_eq (x y : Int) (c : Cfg) (cs : Array Value) (hc : IsCfg c cs) (w : World) (h : mayB c = true) (hxy0 : x % 1048576 = y % 1048576) :
    Calls Try.prog 4 #[.int .i64 x, .int .i64 y, .agg cs] w fun e w' => e = .returned (.bool true) ∧ Below w.heap.size w w' := by
  obtain ⟨b1, b2, b3, b4, b5⟩ := may_bounds h
  have hb := Blk.new w cs 23
  have HM := Lib.hid h; clear h
  have hs := (Fr.refl (fun _ => False) w).alloc (.cells cs 23)
  obtain ⟨lo, hi, hlo, hhi, h0, hlh, hmax⟩ : ∃ lo hi, min (x % 1048576) (y % 1048576) = lo ∧ max (x % 1048576) (y % 1048576) = hi ∧ 0 ≤ lo ∧ lo ≤ hi ∧ hi ≤ 1048576 := ⟨_, _, rfl, rfl, by omega, by omega, by omega⟩
  obtain ⟨g1, g2, g3, g4, g5, g6⟩ := grows_law lo hi c.rate c.least c.links h0 hlh b1 b2 b3 b4 b5
  have qb := q_bounds (cnt hi c.rate c.least c.links) c.rate (by omega) (by omega) b1 b2
  have HLO := Lib.hid hlo; clear hlo
  have HHI := Lib.hid hhi; clear hhi
  go_enter Try.func4, Try.ntmps4
  go_upto_region 1 with fail
  generalize w.alloc (.cells cs 23) = w1 at *
  generalize hg : w.heap.size = g at *
  have B1 := Lib.hid hb; clear hb
  have S1 := Lib.hid hs; clear hs
  have HG := Lib.hid hg; clear hg
  have G4 := Lib.hid g4; clear g4
  have G5 := Lib.hid g5; clear g5
  have G6 := Lib.hid g6; clear g6
  obtain ⟨p, hp⟩ : ∃ p, cnt lo c.rate c.least c.links = p := ⟨_, rfl⟩
  obtain ⟨q, hq⟩ : ∃ q, cnt hi c.rate c.least c.links = q := ⟨_, rfl⟩
  rw [hp] at g1 g2
  rw [hq] at g1 g3 G5 G6 qb
  have HP := Lib.hid hp; clear hp
  have HQ := Lib.hid hq; clear hq
  have HF : Hid ((hi ≤ q * c.rate) ∨ (¬ (hi ≤ q * c.rate) ∧ q = c.links)) := Lib.hid (G5.out.elim Or.inl fun h => (Classical.em (hi ≤ q * c.rate)).elim Or.inl fun hn => Or.inr ⟨hn, h⟩)
  have HE : Hid (q = c.least ∨ ((q == c.least) = false ∧ (q - 1) * c.rate < hi)) := Lib.hid ((Classical.em (q = c.least)).elim Or.inl fun hn => Or.inr ⟨beq_eq_false_iff_ne.2 hn, G6.out.elim (fun h => absurd h hn) id⟩)
  clear G5 G6
  go_wp2_with fail
  refine (awake_ok _).mono ?_
  rintro e w2 ⟨rfl, hs2⟩
  have B2 := Lib.hid (B1.out.keep hs2 id)
  have S2 := Lib.hid (S1.out.trans hs2); clear hs2 B1 S1
  go_wp2_with (refine wpList_load_row rfl 23 _ rfl _ rfl 23 cs (0, 0) _ B2.out Try.underlying23 rfl hc.size ?_)
  refine (may_cs hc _ true HM.out).mono ?_
  rintro e w3 ⟨rfl, rfl⟩
  have B3 : Hid (Blk (w2.alloc (.cells cs 23)) g cs 23) := Lib.hid (B2.out.alloc _)
  have S3 : Hid (Same w (w2.alloc (.cells cs 23))) := Lib.hid (S2.out.alloc _)
  clear B2 S2
  generalize w2.alloc (.cells cs 23) = w3 at *
  have hxy := Lib.hid hxy0
  clear hxy0
  generalize hX : x % 1048576 = X at *
  have hY : y % 1048576 = X := hxy.out.symm
  clear hxy
  obtain ⟨A, hA⟩ : ∃ A, lo = A := ⟨_, rfl⟩
  obtain ⟨D, hD⟩ : ∃ D, hi = D := ⟨_, rfl⟩
  have hcase : X = lo ∧ X = hi := by have := HLO.out; have := HHI.out; omega
  clear HLO HHI hA hD
  obtain ⟨rfl, rfl⟩ := hcase
  all_goals
    go_wp2_with (refine wpList_load_row rfl 23 _ rfl _ rfl 23 cs (0, 0) _ B3.out Try.underlying23 rfl hc.size ?_)
    refine (links_ok _ c cs hc _ HM.out (by omega) (by omega)).mono ?_
    rintro e w4 ⟨rfl, hs4⟩
    rw [HP.out]
    have B4 := Lib.hid (B3.out.keep hs4 id)
    have S4 := Lib.hid (S3.out.trans hs4); clear hs4 B3 S3
    go_wp2_with (refine wpList_load_row rfl 23 _ rfl _ rfl 23 cs (0, 0) _ B4.out Try.underlying23 rfl hc.size ?_)
    refine (links_ok _ c cs hc _ HM.out (by omega) (by omega)).mono ?_
    rintro e w5 ⟨rfl, hs5⟩
    rw [HQ.out]
    have B5 := Lib.hid (B4.out.keep hs5 id)
    have S5 := Lib.hid (S4.out.trans hs5); clear hs5 B4 S4
    go_wp2_with (refine wpList_load_row rfl 23 _ rfl _ rfl 23 cs (0, 0) _ B5.out Try.underlying23 rfl hc.size ?_)
    refine (links_ok 0 c cs hc _ HM.out (by omega) (by omega)).mono ?_
    rintro e w6 ⟨rfl, hs6⟩
    rw [G4.out]
    have hb6 := B5.out.keep hs6 id
    have c1 : w6.cell? ⟨g, 1, none⟩ = some (.int .i64 c.links) := (hb6.cell 1).trans hc.links
    have c2 : w6.cell? ⟨g, 2, none⟩ = some (.int .i64 c.least) := (hb6.cell 2).trans hc.least
    have c3 : w6.cell? ⟨g, 3, none⟩ = some (.int .i64 c.rate) := (hb6.cell 3).trans hc.rate
    have S6 := Lib.hid (S5.out.trans hs6); clear hs6 hb6 B5 S5
    clear HP HQ G4
    obtain ⟨m1, m2, m3, m4⟩ := qb
    have hF := HF.out
    have hE := HE.out
    clear HF HE
    clear HM hc
    generalize c.links = K at *
    generalize c.least = E at *
    generalize c.rate = R at *
    rcases hF with hf | ⟨hf, rfl⟩ <;> rcases hE with rfl | ⟨he, he2⟩
    all_goals
      go_wp2_with (go_at_call 9; refine (num_any _ _).mono ?_; rintro e w7 ⟨rfl, rfl⟩)
      go_ret
      exact ⟨rfl, HG.out ▸ Same.below S6.out⟩

set_option maxRecDepth 100000 in
set_option maxHeartbeats 8000000 in
theorem grows_gt (x y : Int) (c : Cfg) (cs : Array Value) (hc : IsCfg c cs) (w : World) (h : mayB c = true) (hxy0 : y % 1048576 < x % 1048576) :
    Calls Try.prog 4 #[.int .i64 x, .int .i64 y, .agg cs] w fun e w' => e = .returned (.bool true) ∧ Below w.heap.size w w' := by
  obtain ⟨b1, b2, b3, b4, b5⟩ := may_bounds h
  have hb := Blk.new w cs 23
  have HM := Lib.hid h; clear h
  have hs := (Fr.refl (fun _ => False) w).alloc (.cells cs 23)
  obtain ⟨lo, hi, hlo, hhi, h0, hlh, hmax⟩ : ∃ lo hi, min (x % 1048576) (y % 1048576) = lo ∧ max (x % 1048576) (y % 1048576) = hi ∧ 0 ≤ lo ∧ lo ≤ hi ∧ hi ≤ 1048576 := ⟨_, _, rfl, rfl, by omega, by omega, by omega⟩
  obtain ⟨g1, g2, g3, g4, g5, g6⟩ := grows_law lo hi c.rate c.least c.links h0 hlh b1 b2 b3 b4 b5
  have qb := q_bounds (cnt hi c.rate c.least c.links) c.rate (by omega) (by omega) b1 b2
  have HLO := Lib.hid hlo; clear hlo
  have HHI := Lib.hid hhi; clear hhi
  go_enter Try.func4, Try.ntmps4
  go_upto_region 1 with fail
  generalize w.alloc (.cells cs 23) = w1 at *
  generalize hg : w.heap.size = g at *
  have B1 := Lib.hid hb; clear hb
  have S1 := Lib.hid hs; clear hs
  have HG := Lib.hid hg; clear hg
  have G4 := Lib.hid g4; clear g4
  have G5 := Lib.hid g5; clear g5
  have G6 := Lib.hid g6; clear g6
  obtain ⟨p, hp⟩ : ∃ p, cnt lo c.rate c.least c.links = p := ⟨_, rfl⟩
  obtain ⟨q, hq⟩ : ∃ q, cnt hi c.rate c.least c.links = q := ⟨_, rfl⟩
  rw [hp] at g1 g2
  rw [hq] at g1 g3 G5 G6 qb
  have HP := Lib.hid hp; clear hp
  have HQ := Lib.hid hq; clear hq
  have HF : Hid ((hi ≤ q * c.rate) ∨ (¬ (hi ≤ q * c.rate) ∧ q = c.links)) := Lib.hid (G5.out.elim Or.inl fun h => (Classical.em (hi ≤ q * c.rate)).elim Or.inl fun hn => Or.inr ⟨hn, h⟩)
  have HE : Hid (q = c.least ∨ ((q == c.least) = false ∧ (q - 1) * c.rate < hi)) := Lib.hid ((Classical.em (q = c.least)).elim Or.inl fun hn => Or.inr ⟨beq_eq_false_iff_ne.2 hn, G6.out.elim (fun h => absurd h hn) id⟩)
  clear G5 G6
  go_wp2_with fail
  refine (awake_ok _).mono ?_
  rintro e w2 ⟨rfl, hs2⟩
  have B2 := Lib.hid (B1.out.keep hs2 id)
  have S2 := Lib.hid (S1.out.trans hs2); clear hs2 B1 S1
  go_wp2_with (refine wpList_load_row rfl 23 _ rfl _ rfl 23 cs (0, 0) _ B2.out Try.underlying23 rfl hc.size ?_)
  refine (may_cs hc _ true HM.out).mono ?_
  rintro e w3 ⟨rfl, rfl⟩
  have B3 : Hid (Blk (w2.alloc (.cells cs 23)) g cs 23) := Lib.hid (B2.out.alloc _)
  have S3 : Hid (Same w (w2.alloc (.cells cs 23))) := Lib.hid (S2.out.alloc _)
  clear B2 S2
  generalize w2.alloc (.cells cs 23) = w3 at *
  have hxy := hxy0
  clear hxy0
  generalize hX : x % 1048576 = X at *
  generalize hY : y % 1048576 = Y at *
  obtain ⟨A, hA⟩ : ∃ A, lo = A := ⟨_, rfl⟩
  obtain ⟨D, hD⟩ : ∃ D, hi = D := ⟨_, rfl⟩
  have hcase : Y = lo ∧ X = hi := by have := HLO.out; have := HHI.out; omega
  clear HLO HHI hA hD
  obtain ⟨rfl, rfl⟩ := hcase
  all_goals
    go_wp2_with (refine wpList_load_row rfl 23 _ rfl _ rfl 23 cs (0, 0) _ B3.out Try.underlying23 rfl hc.size ?_)
    refine (links_ok _ c cs hc _ HM.out (by omega) (by omega)).mono ?_
    rintro e w4 ⟨rfl, hs4⟩
    rw [HP.out]
    have B4 := Lib.hid (B3.out.keep hs4 id)
    have S4 := Lib.hid (S3.out.trans hs4); clear hs4 B3 S3
    go_wp2_with (refine wpList_load_row rfl 23 _ rfl _ rfl 23 cs (0, 0) _ B4.out Try.underlying23 rfl hc.size ?_)
    refine (links_ok _ c cs hc _ HM.out (by omega) (by omega)).mono ?_
    rintro e w5 ⟨rfl, hs5⟩
    rw [HQ.out]
    have B5 := Lib.hid (B4.out.keep hs5 id)
    have S5 := Lib.hid (S4.out.trans hs5); clear hs5 B4 S4
    go_wp2_with (refine wpList_load_row rfl 23 _ rfl _ rfl 23 cs (0, 0) _ B5.out Try.underlying23 rfl hc.size ?_)
    refine (links_ok 0 c cs hc _ HM.out (by omega) (by omega)).mono ?_
    rintro e w6 ⟨rfl, hs6⟩
    rw [G4.out]
    have hb6 := B5.out.keep hs6 id
    have c1 : w6.cell? ⟨g, 1, none⟩ = some (.int .i64 c.links) := (hb6.cell 1).trans hc.links
    have c2 : w6.cell? ⟨g, 2, none⟩ = some (.int .i64 c.least) := (hb6.cell 2).trans hc.least
    have c3 : w6.cell? ⟨g, 3, none⟩ = some (.int .i64 c.rate) := (hb6.cell 3).trans hc.rate
    have S6 := Lib.hid (S5.out.trans hs6); clear hs6 hb6 B5 S5
    clear HP HQ G4
    obtain ⟨m1, m2, m3, m4⟩ := qb
    have hF := HF.out
    have hE := HE.out
    clear HF HE
    clear HM hc
    generalize c.links = K at *
    generalize c.least = E at *
    generalize c.rate = R at *
    rcases hF with hf | ⟨hf, rfl⟩ <;> rcases hE with rfl | ⟨he, he2⟩
    all_goals
      go_wp2_with (go_at_call 9; refine (num_any _ _).mono ?_; rintro e w7 ⟨rfl, rfl⟩)
      go_ret
      exact ⟨rfl, HG.out ▸ Same.below S6.out⟩

theorem grows_any (x y : Int) (c : Cfg) (cs : Array Value) (hc : IsCfg c cs) (w : World) :
    Calls Try.prog 4 #[.int .i64 x, .int .i64 y, .agg cs] w fun e w' => e = .returned (.bool true) ∧ Below w.heap.size w w' := by
  cases h : mayB c with
  | false => exact grows_bad x y c cs hc w h
  | true =>
    rcases Int.lt_trichotomy (x % 1048576) (y % 1048576) with hxy | hxy | hxy
    · exact grows_lt x y c cs hc w h hxy
    · exact grows_eq x y c cs hc w h hxy
    · exact grows_gt x y c cs hc w h hxy

end Go.Proofs.Ytobpjejeignacaa
