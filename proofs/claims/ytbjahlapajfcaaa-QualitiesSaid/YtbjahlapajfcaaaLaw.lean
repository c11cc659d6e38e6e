/- The walk over Qualities: it returns true. -/
import Derived.Test.YtbjahlapajfcaaaRefGood
import Derived.Deep.RegionWith
import Derived.StillTailTactics
import Derived.Deep.RegionHeld3
namespace Go.Proofs.Ytbjahlapajfcaaa
open Go.RowKit

/-- The reference's object at block b; all that is its own lies from block B on. -/
def IsR (w : World) (B b : Nat) (n g o : Int) (L : List (Int × Int)) : Prop :=
  B ≤ b ∧ B ≤ w.heap.size ∧ 1 ≤ n ∧ n ≤ 32 ∧ (L.length : Int) ≤ n ∧ (∀ p ∈ L, Fine p) ∧ 0 ≤ g ∧ g ≤ o ∧ 1 ≤ o ∧ o ≤ 1000 ∧
  ∃ gs gg vs vg, Blk w b #[.int .i64 n, .int .i64 g, .int .i64 o, vs, vg] 45 ∧ Holds w gs 1 vs L.length (sents L) ∧ Holds w gg 1 vg L.length (gots L) ∧
    (∀ k, gs = some k → B ≤ k ∧ k ≠ b) ∧ (∀ k, gg = some k → B ≤ k ∧ k ≠ b) ∧ (∀ k, gs = some k → gg ≠ some k)

theorem IsR.keep {w w' : World} {B b : Nat} {n g o : Int} {L : List (Int × Int)} {S : Nat → Prop} (h : IsR w B b n g o L) (hf : Fr S w w') (hS : ∀ k, S k → k < B) : IsR w' B b n g o L := by
  obtain ⟨h1, h2, h3, h4, h5, h6, h7, h8, h9, h10, gs, gg, vs, vg, hb, hs, hg, d1, d2, d3⟩ := h
  refine ⟨h1, Nat.le_trans h2 hf.size, h3, h4, h5, h6, h7, h8, h9, h10, gs, gg, vs, vg, hb.keep hf (fun h => ?_), hs.keep hf (fun k hk h => ?_), hg.keep hf (fun k hk h => ?_), d1, d2, d3⟩
  · have := hS b h; omega
  · have := hS k h; have := (d1 k hk).1; omega
  · have := hS k h; have := (d2 k hk).1; omega

theorem IsR.drewN {w : World} {B b : Nat} {n g o : Int} {L : List (Int × Int)} (m : Nat) (h : IsR w B b n g o L) : IsR (w.drewN m) B b n g o L := h

theorem quiet_of_eq {P : Program} {f : FuncId} {args : Array Value} {w : World} {n : Nat} {v : Value}
    (h : Calls P f args (w.drewN n) fun e w' => e = .returned v ∧ w.drewN n = w') : Calls P f args (w.drewN n) fun e w'' => e = .returned v ∧ ∃ m, w'' = w.drewN m :=
  h.mono fun _ _ ⟨he, hm⟩ => ⟨he, n, hm.symm⟩

theorem fr_of_below {B : Nat} {w w' : World} (h : Below B w w') : Fr (fun k => B ≤ k) w w' :=
  ⟨h.os, h.tape, h.output, h.size, fun k _ hs => h.block k (by omega)⟩

theorem RowIn.lt {k : IntKind} {w : World} {b o len cap : Nat} {zs : List Int} (h : RowIn k w (some ⟨b, o, none⟩) len cap zs) (hl : 0 < len) : b < w.heap.size := by
  rcases h with ⟨h, _⟩ | ⟨x, hx, h1, _, h3, hc, _⟩
  · cases h
  · cases hx
    have := hc 0 (by omega)
    exact World.block_lt_of_cell? w _ this

theorem cell_lt {w : World} {b o : Nat} {v : Value} (h : w.cell? ⟨b, o, none⟩ = some v) : b < w.heap.size := World.block_lt_of_cell? w _ h

theorem cell_keep {S : Nat → Prop} {w w' : World} {b o : Nat} {v : Value} (h : w.cell? ⟨b, o, none⟩ = some v) (hf : Fr S w w') (hb : ¬ S b) : w'.cell? ⟨b, o, none⟩ = some v := by
  rw [← h]
  exact World.cell?_of_block (w := w) (hf.block b (cell_lt h) hb)

theorem same_of_below {B : Nat} {w w1 w2 : World} (h : Same w w1) (k : Below B w1 w2) (hB : w.heap.size ≤ B) : Same w w2 :=
  ⟨k.os.trans h.os, k.tape.trans h.tape, k.output.trans h.output, Nat.le_trans h.size k.size, fun i hi hs => (k.block i (by omega)).trans (h.block i hi hs)⟩

theorem rnew_ok (n g o : Int) (w : World) (h1 : 1 ≤ n) (h2 : n ≤ 32) (h3 : 1 ≤ o) (h4 : o ≤ 1000) (h5 : 0 ≤ g) (h6 : g ≤ o) :
    Calls Try.prog 10 #[.int .i64 n, .int .i64 g, .int .i64 o] w fun e w' => ∃ b, e = .returned (.tuple #[.pointer (some ⟨b, 0, none⟩), .int .i64 0]) ∧
      IsR w' w.heap.size b n g o [] ∧ Same w w' := by
  refine (rnew_good n g o w h1 h2 h3 h4 h5 h6).mono fun e w' ⟨he, hw⟩ => ⟨w.heap.size, he, ?_, ?_⟩
  · subst hw
    refine ⟨Nat.le_refl _, by simp, h1, h2, by simp; omega, by simp, h5, h6, h3, h4, none, none, _, _, Blk.new _ _ _, Holds.nil _ _, Holds.nil _ _, ?_, ?_, ?_⟩
    · intro k hk; cases hk
    · intro k hk; cases hk
    · intro k hk; cases hk
  · subst hw
    exact (Fr.refl _ _).alloc _

theorem radd_ok {w : World} {B b : Nat} {n g o : Int} {L : List (Int × Int)} (h : IsR w B b n g o L) (s t : Int) (hp : Fine (s, t)) :
    Calls Try.prog 14 #[.pointer (some ⟨b, 0, none⟩), .int .i64 s, .int .i64 t] w fun e w' => e = .returned (.int .i64 0) ∧ IsR w' B b n g o (add1 n L (s, t)) ∧ Below B w w' := by
  obtain ⟨h1, h2, h3, h4, h5, h6, h7, h8, h9, h10, gs, gg, vs, vg, hb, hs, hg, d1, d2, d3⟩ := h
  refine (radd_good B b n g o s t gs gg vs vg L w h1 h2 hb hs hg d1 d2 d3 hp h3 h4 h5).mono fun e w' ⟨he, hbel, gs', gg', vs', vg', hb', hs', hg', e1, e2, e3⟩ => ⟨he, ?_, hbel⟩
  refine ⟨h1, Nat.le_trans h2 hbel.size, h3, h4, ?_, ?_, h7, h8, h9, h10, gs', gg', vs', vg', hb', hs', hg', e1, e2, e3⟩
  · unfold add1
    split
    · simp; omega
    · simp; omega
  · intro q hq
    unfold add1 at hq
    have : q ∈ L ++ [(s, t)] := by
      split at hq
      · exact hq
      · exact List.mem_of_mem_tail hq
    rcases List.mem_append.1 this with h | h
    · exact h6 q h
    · rw [List.mem_singleton] at h; exact h ▸ hp

theorem rgood_is {w : World} {B b : Nat} {n g o : Int} {L : List (Int × Int)} (h : IsR w B b n g o L) (v : Bool) (hv : gd L g o = v) :
    Calls Try.prog 16 #[.pointer (some ⟨b, 0, none⟩)] w fun e w' => e = .returned (.bool v) ∧ ∃ n, w' = w.drewN n := by
  subst hv
  obtain ⟨h1, h2, h3, h4, h5, h6, h7, h8, h9, h10, gs, gg, vs, vg, hb, hs, hg, d1, d2, d3⟩ := h
  exact rgood_any b n g o gs gg vs vg L w hb hs hg h6 (by omega) h7 h8 h10

/-- The ring's row is the list's with nothing ahead of it. -/
def Pad (n : Int) (LQ LR : List (Int × Int)) : Prop := LQ = List.replicate (n.toNat - LR.length) (0, 0) ++ LR

theorem Pad.start (n : Int) : Pad n (List.replicate n.toNat (0, 0)) [] := by unfold Pad; simp

theorem Pad.good {n : Int} {LQ LR : List (Int × Int)} (h : Pad n LQ LR) (g o : Int) : gd LQ g o = gd LR g o := by
  unfold Pad at h
  subst h
  unfold gd
  rw [sumS_append, sumG_append, sumS_replicate, sumG_replicate, Int.zero_add, Int.zero_add]

theorem Pad.push {n : Int} {LQ LR : List (Int × Int)} (h : Pad n LQ LR) (p : Int × Int) (h1 : 1 ≤ n) (hl : (LR.length : Int) ≤ n) : Pad n (push LQ p) (add1 n LR p) := by
  unfold Pad at *
  subst h
  unfold add1 Ytbjahlapajfcaaa.push
  split
  · obtain ⟨m, hm⟩ : ∃ m, n.toNat - LR.length = m + 1 := ⟨n.toNat - LR.length - 1, by omega⟩
    have hm2 : n.toNat - (LR ++ [p]).length = m := by simp; omega
    rw [hm, hm2, List.replicate_succ]
    simp
  · rename_i hh
    have hm : n.toNat - LR.length = 0 := by omega
    have hm2 : n.toNat - (LR ++ [p]).tail.length = 0 := by rw [tail_length]; omega
    rw [hm, hm2]
    cases LR with
    | nil => exfalso; simp at hh; omega
    | cons q L => simp

theorem IsR.nums {w : World} {B b : Nat} {n g o : Int} {L : List (Int × Int)} (h : IsR w B b n g o L) : 1 ≤ n ∧ (L.length : Int) ≤ n := ⟨h.2.2.1, h.2.2.2.2.1⟩

set_option maxRecDepth 100000 in
set_option maxHeartbeats 400000 in
theorem law_bad (n g o : Int) (a3 : Option Addr) (len3 cap3 : Nat) (a4 : Option Addr) (len4 cap4 : Nat) (w : World) (h : n < 1 ∨ 32 < n ∨ o < 1 ∨ 1000 < o ∨ g < 0 ∨ o < g) :
    Calls Try.prog 3 #[.int .i64 n, .int .i64 g, .int .i64 o, .slice a3 len3 cap3, .slice a4 len4 cap4] w fun e w' => e = .returned (.bool true) ∧ Below w.heap.size w w' := by
  go_enter Try.func3, Try.ntmps3
  go_wp2_with fail
  refine (new_bad n g o _ h).mono ?_
  rintro e w2 ⟨rfl, rfl⟩
  go_wp2_with fail
  refine (rnew_bad n g o _ h).mono ?_
  rintro e w2 ⟨rfl, rfl⟩
  clear h
  go_wp2_with (go_at_call 11; refine (num_any _ _).mono ?_; rintro e w2 ⟨rfl, rfl⟩)
  refine (awake_ok _).mono ?_
  rintro e w1 ⟨rfl, hs1⟩
  have S1 := Lib.hid hs1; clear hs1
  go_wp2_with fail
  go_ret
  exact ⟨rfl, Same.below S1.out⟩

set_option maxRecDepth 100000 in
set_option maxHeartbeats 1000000 in
theorem law_good (n g o : Int) (a3 : Option Addr) (len3 cap3 : Nat) (z3 : List Int) (a4 : Option Addr) (len4 cap4 : Nat) (z4 : List Int) (w : World) (h3 : RowIn .i64 w a3 len3 cap3 z3) (h4 : RowIn .i64 w a4 len4 cap4 z4)
    (k1 : 1 ≤ n) (k2 : n ≤ 32) (k3 : 1 ≤ o) (k4 : o ≤ 1000) (k5 : 0 ≤ g) (k6 : g ≤ o) :
    Calls Try.prog 3 #[.int .i64 n, .int .i64 g, .int .i64 o, .slice a3 len3 cap3, .slice a4 len4 cap4] w fun e w' => e = .returned (.bool true) ∧ Below w.heap.size w w' := by
  have H3 := Lib.hid h3; clear h3
  have H4 := Lib.hid h4; clear h4
  go_enter Try.func3, Try.ntmps3
  go_wp2_with fail
  refine (new_ok n g o _ k1 k2 k3 k4 k5 k6).mono ?_
  rintro e w1 ⟨r, b, rfl, hq1, hr1, hb1, hs1⟩
  have hr2 := hq1.lt
  have Q1 := Lib.hid hq1; clear hq1
  have S1 := Lib.hid hs1; clear hs1
  go_wp2_with fail
  refine (rnew_ok n g o _ k1 k2 k3 k4 k5 k6).mono ?_
  rintro e w2 ⟨rb, rfl, hi1, hs2⟩
  have Q2 := Lib.hid (Q1.out.keep hs2 id id)
  have S2 := Lib.hid (S1.out.trans hs2); clear hs2
  obtain ⟨B, hB⟩ : ∃ B, w1.heap.size = B := ⟨_, rfl⟩
  rw [hB] at hi1 hr2
  have hwB : w.heap.size ≤ B := hB ▸ S1.out.size
  have R2 := Lib.hid hi1; clear hi1 hB
  go_wp2_with (go_at_call 11; refine (num_any _ _).mono ?_; rintro e w3 ⟨rfl, rfl⟩)
  go_loopw [15] (fun i wr => ∃ (k : Nat) (LQ LR : List (Int × Int)), k ≤ 100 ∧ i = .int .i64 k ∧ Pad n LQ LR ∧ IsQ wr r b g o LQ ∧ IsR wr B rb n g o LR ∧ Same w wr) (fun i _ => 100 - (intOf i).toNat)
  case atStart => exact ⟨0, _, _, by omega, rfl, Pad.start n, Q2.out, R2.out, S2.out⟩
  case round =>
    clear Q1 S1 Q2 S2 R2
    obtain ⟨k, LQ, LR, hk, rfl, hpad, hq, hr, hs⟩ := hrel
    have Q := Lib.hid hq; clear hq
    have R := Lib.hid hr; clear hr
    have S := Lib.hid hs; clear hs
    have P := Lib.hid hpad; clear hpad
    by_cases hc : k < len3 ∧ k < len4 ∧ k < 100
    · obtain ⟨hc1, hc2, hc3⟩ := hc
      obtain ⟨b3, o3, s, rfl, d3⟩ := RowIn.at H3.out S.out k hc1
      obtain ⟨b4, o4, t, rfl, d4⟩ := RowIn.at H4.out S.out k hc2
      have l3 : b3 < w.heap.size := RowIn.lt H3.out (by omega)
      have l4 : b4 < w.heap.size := RowIn.lt H4.out (by omega)
      by_cases hf : Fine (s, t)
      · go_wp2_with fail
        go_still_tail 9, (by kernel_rfl)
        go_wp2_with fail
        refine (add_ok (Q.out.drewN 1) s t hf).mono ?_
        rintro e w4 ⟨rfl, hq4, hf4⟩
        have e3 := cell_keep (w := wr.drewN 1) d3 hf4 (by omega)
        have e4 := cell_keep (w := wr.drewN 1) d4 hf4 (by omega)
        have Q4 := Lib.hid hq4; clear hq4
        have S4 := Lib.hid (ofAdd (S.out.drewN 1) hf4 hr1 hb1)
        have R4 := Lib.hid ((R.out.drewN 1).keep hf4 (by rintro k (h | h) <;> omega))
        clear hf4
        have hpad' := P.out.push (s, t) R.out.nums.1 R.out.nums.2
        obtain ⟨v, hv1, hv2⟩ : ∃ v, gd (push LQ (s, t)) g o = v ∧ gd (add1 n LR (s, t)) g o = v := ⟨_, rfl, (hpad'.good g o).symm⟩
        have V1 := Lib.hid hv1; clear hv1
        have V2 := Lib.hid hv2; clear hv2
        have P4 := Lib.hid hpad'; clear hpad'
        have HF := Lib.hid hf; clear hf
        go_wp2_with fail
        go_region_held3 (fun w' => w'.cell? ⟨b3, o3 + k, none⟩ = some (.int .i64 s) ∧ w'.cell? ⟨b4, o4 + k, none⟩ = some (.int .i64 t))
          (first | exact ⟨e3, e4⟩ | exact ⟨g3, g4⟩)
          (first
            | (go_at_call 11; refine (num_any _ _).mono ?_; rintro e w6 ⟨rfl, rfl⟩)
            | (go_at_call 14; refine (radd_ok (R4.out.drewN 1) s t HF.out).mono ?_; rintro e w5 ⟨rfl, hr5, hb5⟩; have g3 := cell_keep (w := w4.drewN 1) e3 (fr_of_below hb5) (by omega); have g4 := cell_keep (w := w4.drewN 1) e4 (fr_of_below hb5) (by omega); have R5 := Lib.hid hr5; clear hr5; have Q5 := Lib.hid ((Q4.out.drewN 1).keep (fr_of_below hb5) (by omega) (by omega)); have S5 := Lib.hid (same_of_below (S4.out.drewN 1) hb5 hwB); clear hb5)
            | (go_at_call 15; refine (good_is Q5.out v V1.out).mono ?_; rintro e w6 ⟨rfl, n6, rfl⟩)
            | (go_at_call 16; refine (rgood_is (R5.out.drewN n6) v V2.out).mono ?_; rintro e w6 ⟨rfl, n7, rfl⟩))
        go_wp2
        go_roundw
        case rel => exact ⟨k + 1, _, _, by omega, by go_num, P4.out, Q5.out.drewN (n6 + n7), R5.out.drewN (n6 + n7), S5.out.drewN (n6 + n7)⟩
        case measure => simp [intOf]; omega
      · have hf' : s < 0 ∨ 2147483647 < s ∨ t < 0 ∨ s < t := by unfold Fine at hf; simp only at hf; omega
        have HF := Lib.hid hf'; clear hf' hf
        obtain ⟨v, hv1, hv2⟩ : ∃ v, gd LQ g o = v ∧ gd LR g o = v := ⟨_, rfl, (P.out.good g o).symm⟩
        have V1 := Lib.hid hv1; clear hv1
        have V2 := Lib.hid hv2; clear hv2
        go_wp2_with fail
        go_still_tail 9, (by kernel_rfl)
        go_wp2_with fail
        refine (add_bad b s t _ HF.out).mono ?_
        rintro e w4 ⟨rfl, rfl⟩
        go_wp2_with fail
        have q3 : wr.drew.cell? ⟨b3, o3 + k, none⟩ = some (.int .i64 s) := d3
        have q4 : wr.drew.cell? ⟨b4, o4 + k, none⟩ = some (.int .i64 t) := d4
        have Qd : Hid (IsQ wr.drew r b g o LQ) := Lib.hid (Q.out.drewN 1)
        have Rd : Hid (IsR wr.drew B rb n g o LR) := Lib.hid (R.out.drewN 1)
        have Sd : Hid (Same w wr.drew) := Lib.hid (S.out.drewN 1)
        clear d3 d4 Q R S
        generalize wr.drew = wq at *
        go_quiet ((first | (go_at_call 11; exact quiet_of_eq (num_any _ _)) | (go_at_call 14; exact quiet_of_eq (radd_bad rb s t _ HF.out)) | (go_at_call 15; exact Calls.quiet_of (good_is (Qd.out.drewN _) v V1.out)) | (go_at_call 16; exact Calls.quiet_of (rgood_is (Rd.out.drewN _) v V2.out))))
        go_wp2
        go_roundw
        case rel => exact ⟨k + 1, _, _, by omega, by go_num, P.out, Qd.out.drewN nq, Rd.out.drewN nq, Sd.out.drewN nq⟩
        case measure => simp [intOf]; omega
    · have hx : (¬ k < len3) ∨ (k < len3 ∧ ¬ k < len4) ∨ (k < len3 ∧ k < len4 ∧ ¬ k < 100) := by omega
      clear hc
      rcases hx with hx | ⟨hx1, hx2⟩ | ⟨hx1, hx2, hx3⟩
      all_goals
        go_wp2_with fail
        refine (awake_ok _).mono ?_
        rintro e w3 ⟨rfl, hs3⟩
        have S3 := Lib.hid (S.out.trans hs3); clear hs3
        go_wp2_with fail
        go_ret
        exact ⟨rfl, Same.below S3.out⟩

theorem law_walk (n g o : Int) (a3 : Option Addr) (len3 cap3 : Nat) (z3 : List Int) (a4 : Option Addr) (len4 cap4 : Nat) (z4 : List Int) (w : World) (_ : (Lit.int .i64 n).wf = true) (_ : (Lit.int .i64 g).wf = true) (_ : (Lit.int .i64 o).wf = true)
    (h3 : RowIn .i64 w a3 len3 cap3 z3) (h4 : RowIn .i64 w a4 len4 cap4 z4) :
    Calls Try.prog 3 #[.int .i64 n, .int .i64 g, .int .i64 o, .slice a3 len3 cap3, .slice a4 len4 cap4] w fun e w' => e = .returned (.bool true) ∧ Below w.heap.size w w' := by
  by_cases h : n < 1 ∨ 32 < n ∨ o < 1 ∨ 1000 < o ∨ g < 0 ∨ o < g
  · exact law_bad n g o a3 len3 cap3 a4 len4 cap4 w h
  · exact law_good n g o a3 len3 cap3 z3 a4 len4 cap4 z4 w h3 h4 (by omega) (by omega) (by omega) (by omega) (by omega) (by omega)

end Go.Proofs.Ytbjahlapajfcaaa
