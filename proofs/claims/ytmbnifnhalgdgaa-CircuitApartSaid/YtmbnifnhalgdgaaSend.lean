/- The walk over Send of package circuit. -/
import Derived.Test.YtmbnifnhalgdgaaWalksB
import Derived.Test.YtmbnifnhalgdgaaQueue
import Derived.Laws.IdiomStrings
import Derived.Deep.CutBlock
namespace Go.Proofs.Ytmbnifnhalgdgaa
open Go.RowKit

set_option maxRecDepth 100000 in
set_option maxHeartbeats 400000 in
theorem send_err {w : World} (sb : Nat) (c x : Int) (s : ByteArray) (er : Int) (he : er = 2500 ∨ er = 2502)
    (h : Calls Try.prog 22 #[.pointer (some ⟨sb, 0, none⟩), .int .i64 c, .int .i64 x] w fun e w' => e = .returned (.tuple #[.pointer none, .int .i64 er]) ∧ w = w') :
    Calls Try.prog 14 #[.pointer (some ⟨sb, 0, none⟩), .int .i64 c, .int .i64 x, .string s] w fun e w' => e = .returned (.int .i64 er) ∧ w = w' := by
  have H := Lib.hid h; clear h
  rcases he with rfl | rfl
  all_goals
    go_enter Try.func14, Try.ntmps14
    go_wp2_with fail
    refine H.out.mono ?_
    rintro e w' ⟨rfl, rfl⟩
    go_wp2
    go_ret
    exact ⟨rfl, rfl⟩

set_option maxRecDepth 100000 in
set_option maxHeartbeats 400000 in
theorem send_big {w : World} (sb b o : Nat) (c x t most : Int) (s : ByteArray) (hs : s.size ≤ maxLen)
    (h : Calls Try.prog 22 #[.pointer (some ⟨sb, 0, none⟩), .int .i64 c, .int .i64 x] w fun e w' => e = .returned (.tuple #[.pointer (some ⟨b, o, none⟩), .int .i64 0]) ∧ w = w')
    (m1 : w.cell? ⟨sb, 1, none⟩ = some (.int .i64 most)) (c1 : w.cell? ⟨b, o + 1, none⟩ = some (.int .i64 t)) (ht : 0 ≤ t ∧ t ≤ most) (_hm : most ≤ 65536) (hbig : most - t < s.size) :
    Calls Try.prog 14 #[.pointer (some ⟨sb, 0, none⟩), .int .i64 c, .int .i64 x, .string s] w fun e w' => e = .returned (.int .i64 2500) ∧ ∃ n, w' = w.drewN n := by
  have H := Lib.hid h; clear h
  obtain ⟨t1, t2⟩ := ht
  unfold maxLen at hs
  go_enter Try.func14, Try.ntmps14
  go_wp2_with fail
  refine H.out.mono ?_
  rintro e w' ⟨rfl, rfl⟩
  go_wp2
  go_quiet (fail)
  go_wp2
  go_ret
  exact ⟨rfl, _, rfl⟩

set_option maxRecDepth 100000 in
set_option maxHeartbeats 400000 in
theorem send_lost {w : World} (sb b o : Nat) (c x t most lost : Int) (s : ByteArray)
    (h : Calls Try.prog 22 #[.pointer (some ⟨sb, 0, none⟩), .int .i64 c, .int .i64 x] w fun e w' => e = .returned (.tuple #[.pointer (some ⟨b, o, none⟩), .int .i64 0]) ∧ w = w')
    (m1 : w.cell? ⟨sb, 1, none⟩ = some (.int .i64 most)) (c1 : w.cell? ⟨b, o + 1, none⟩ = some (.int .i64 t)) (c2 : w.cell? ⟨b, o + 2, none⟩ = some (.int .i64 lost)) (f2 : w.frozen? ⟨b, o + 2, none⟩ = false)
    (ht : 0 ≤ t ∧ t ≤ most) (hm : most ≤ 65536) (hfit : s.size ≤ most - t) (hl : 0 < lost) (hl2 : lost ≤ 1000000000) :
    Calls Try.prog 14 #[.pointer (some ⟨sb, 0, none⟩), .int .i64 c, .int .i64 x, .string s] w fun e w' => e = .returned (.int .i64 0) ∧ ∃ n, w' = (w.drewN n).setCell ⟨b, o + 2, none⟩ (.int .i64 (lost - 1)) := by
  have H := Lib.hid h; clear h
  obtain ⟨t1, t2⟩ := ht
  go_enter Try.func14, Try.ntmps14
  go_wp2_with fail
  refine H.out.mono ?_
  rintro e w' ⟨rfl, rfl⟩
  go_wp2
  go_quiet (fail)
  go_wp2
  go_ret
  exact ⟨rfl, _, rfl⟩

theorem info63 : (Try.prog.info? 63).map (fun i => (i.zero, i.size, i.bytes)) = some (some (.agg #[.slice none 0 0, .bool false]), 2, 32) := by kernel_rfl

theorem cells_two_at (w : World) (x y : Value) (e : TypeId) (k : Nat) (h : w.heap.size = k) : ∀ j u, [x, y][j]? = some u → (w.alloc (.cells #[x, y] e)).cell? ((⟨k, 0, none⟩ : Addr).add j) = some u := by
  subst h
  intro j u hu
  have hb := Blk.new w #[x, y] e
  rcases j with _ | _ | j
  · exact (hb.cell 0).trans hu
  · exact (hb.cell 1).trans hu
  · simp at hu

theorem fr_set (w : World) (b i : Nat) (u : Value) : Fr (fun k => k = b) w (w.setCell ⟨b, i, none⟩ u) :=
  Fr.setCell (S := fun k => k = b) (Fr.refl _ _) (Or.inr rfl) _

/-- What '[]byte(s)' lays. -/
theorem conv_new (W : World) (s : ByteArray) : ∃ cap D fr, (convert 9 43 (.string s)).run Try.prog W = .ok (.slice (some ⟨W.heap.size, 0, none⟩) s.size cap) (W.drew.alloc (.cells D 5 fr)) ∧
    ∀ j (hj : j < s.size), (W.drew.alloc (.cells D 5 fr)).cell? ⟨W.heap.size, j, none⟩ = some (.int .u8 (s[j].toNat : Int)) ∧ (W.drew.alloc (.cells D 5 fr)).frozen? ⟨W.heap.size, j, none⟩ = false := by
  refine ⟨_, _, _, run_bytes_of_string W 9 43 5 s Try.underlying9 Try.underlying43 Try.underlying5, fun j hj => ?_⟩
  have hsz : s.size ≤ (bytesRow s (grownCap W s.size 0 5)).size := by unfold bytesRow; rw [Array.size_append, Array.size_map]; exact Nat.le_add_right _ _
  have e : W.heap.size = W.drew.heap.size := rfl
  rw [e]
  constructor
  · rw [World.cell?_alloc_mark]
    exact bytesRow_at s _ j hj
  · rw [World.frozen?_alloc_mark]
    have : ¬ (bytesRow s (grownCap W s.size 0 5)).size ≤ j := by omega
    simp only [decide_eq_false this, Bool.false_and]

set_option maxRecDepth 100000 in
set_option maxHeartbeats 1000000 in
theorem send_ok {w : World} (sb b o : Nat) (c x t most lost : Int) (s : ByteArray) (C : Array Value) (g : Option Nat) (v : Value) (n : Nat) (xs : List Value)
    (h : Calls Try.prog 22 #[.pointer (some ⟨sb, 0, none⟩), .int .i64 c, .int .i64 x] w fun e w' => e = .returned (.tuple #[.pointer (some ⟨b, o, none⟩), .int .i64 0]) ∧ w = w')
    (m1 : w.cell? ⟨sb, 1, none⟩ = some (.int .i64 most)) (hb : Blk w b C 58) (hC0 : C[o]? = some v) (hC1 : C[o + 1]? = some (.int .i64 t)) (hC2 : C[o + 2]? = some (.int .i64 lost))
    (hh : Holds w g 2 v n xs) (hgb : g ≠ some b) (hn : n ≤ 1000000000)
    (ht : 0 ≤ t ∧ t ≤ most) (hm : most ≤ 65536) (hfit : s.size ≤ most - t) (hl : lost = 0) :
    Calls Try.prog 14 #[.pointer (some ⟨sb, 0, none⟩), .int .i64 c, .int .i64 x, .string s] w fun e w' => e = .returned (.int .i64 0) ∧ ∃ b' v' cap,
      Blk w' b ((C.setIfInBounds o v').setIfInBounds (o + 1) (.int .i64 (t + s.size))) 58 ∧
      Holds w' (some b') 2 v' (n + 1) (xs ++ [.slice (some ⟨w.heap.size, 0, none⟩) s.size cap, .bool false]) ∧ (g = some b' ∨ w.heap.size < b') ∧ b' < w'.heap.size ∧ w.heap.size < w'.heap.size ∧
      (∀ j (hj : j < s.size), w'.cell? ⟨w.heap.size, j, none⟩ = some (.int .u8 (s[j].toNat : Int)) ∧ w'.frozen? ⟨w.heap.size, j, none⟩ = false) ∧ Fr (fun k => k = b ∨ g = some k) w w' := by
  subst hl
  obtain ⟨i63, hi, hz0, hz1, hz2⟩ := info_parts info63
  have c0 : w.cell? ⟨b, o, none⟩ = some v := (hb.cell o).trans hC0
  have c1 : w.cell? ⟨b, o + 1, none⟩ = some (.int .i64 t) := (hb.cell (o + 1)).trans hC1
  have c2 : w.cell? ⟨b, o + 2, none⟩ = some (.int .i64 0) := (hb.cell (o + 2)).trans hC2
  have H := Lib.hid h; clear h
  have HB := Lib.hid hb; clear hb
  have HH := Lib.hid hh; clear hh
  have HGB := Lib.hid hgb; clear hgb
  have HC0 := Lib.hid hC0; clear hC0
  have HC1 := Lib.hid hC1; clear hC1
  clear hC2
  have HI := Lib.hid (And.intro hi (And.intro hz0 (And.intro hz1 hz2))); clear hi hz0 hz1 hz2
  obtain ⟨t1, t2⟩ := ht
  go_enter Try.func14, Try.ntmps14
  go_wp2_with fail
  refine H.out.mono ?_
  rintro e w' ⟨rfl, rfl⟩
  go_wp2
  go_quiet (fail)
  go_upto_region 9 with fail
  have c0 : (w.drewN nq).cell? ⟨b, o, none⟩ = some v := c0
  have c1 : (w.drewN nq).cell? ⟨b, o + 1, none⟩ = some (.int .i64 t) := c1
  have HB := Lib.hid (HB.out.drewN nq)
  have HH := Lib.hid (HH.out.drewN nq)
  have HFW : Hid (Fr (fun _ => False) w (w.drewN nq)) := Lib.hid ((Fr.refl _ w).drewN nq)
  have HSZ : Hid ((w.drewN nq).heap.size = w.heap.size) := Lib.hid rfl
  clear m1 c2
  generalize w.drewN nq = W at *
  obtain ⟨cap, D, fr, hcv, hD⟩ := conv_new W s
  have HD := Lib.hid hD; clear hD
  go_wp2_with (at_builtin; refine wpList_append_holds _ rfl _ _ 52 rfl 63 i63 (.agg #[.slice none 0 0, .bool false]) 2 32 Try.underlying52 HI.out.1 HI.out.2.1 HI.out.2.2.1 HI.out.2.2.2 rfl (by decide) g v n xs rfl (HH.out.keep ((((Fr.refl (fun _ => False) W).alloc _).alloc _).drew) (fun _ _ h => h)) ⟨W.heap.size + 1, 0, none⟩ 1 1 [.slice (some ⟨W.heap.size, 0, none⟩) s.size cap, .bool false] rfl rfl (cells_two_at (W.alloc (.cells D 5 fr)) _ _ 63 (W.heap.size + 1) (by simp)) (by simp [Value.oneCell']) (by decide) (by unfold maxLen; omega) (by omega) ?_)
  intro b1 off1 cap1 w1 hh1 hor1 hlt1 hf1
  have hfa : Fr (fun k => g = some k) W ((W.alloc (.cells D 5 fr)).alloc (.cells #[.slice (some ⟨W.heap.size, 0, none⟩) s.size cap, .bool false] 63)).drew := (((Fr.refl _ W).alloc _).alloc _).drew
  have hf01 := hfa.trans hf1
  have hb1 : Blk w1 b C 58 := HB.out.keep hf01 HGB.out
  have c0 : w1.cell? ⟨b, o, none⟩ = some v := (hb1.cell o).trans HC0.out
  have c1 : w1.cell? ⟨b, o + 1, none⟩ = some (.int .i64 t) := (hb1.cell (o + 1)).trans HC1.out
  have f0 := hb1.frozen o
  have f1 := hb1.frozen (o + 1)
  have HB1 := Lib.hid hb1; clear hb1
  have HH1 := Lib.hid hh1; clear hh1
  have HF1 := Lib.hid hf01; clear hf01 hfa
  have HF2 := Lib.hid hf1; clear hf1
  have HO1 := Lib.hid hor1; clear hor1
  have HL1 := Lib.hid hlt1; clear hlt1
  go_wp2
  go_ret
  have hset : Fr (fun k => k = b) w1 ((w1.setCell ⟨b, o, none⟩ (.slice (some ⟨b1, off1, none⟩) (n + 1) cap1)).setCell ⟨b, o + 1, none⟩ (.int .i64 (t + s.size))) := (fr_set w1 b o _).trans (fr_set _ b (o + 1) _)
  have hsz : W.heap.size < ((W.alloc (.cells D 5 fr)).alloc (.cells #[.slice (some ⟨W.heap.size, 0, none⟩) s.size cap, .bool false] 63)).drew.heap.size := by
    show W.heap.size < ((W.heap.push _).push _).size
    simp
    omega
  have hbw := HB.out.lt
  have hob : W.heap.size ≠ b := by omega
  have hgs : ¬ g = some W.heap.size := fun e => by have := HH.out.lt _ e; omega
  have hor : g = some b1 ∨ W.heap.size < b1 := by
    rcases HO1.out with h | h
    · exact Or.inl h
    · right; omega
  have hb1b : b1 ≠ b := by
    rcases hor with h | h
    · intro e; exact HGB.out (h.trans (by rw [e]))
    · omega
  rw [← HSZ.out]
  refine ⟨rfl, b1, .slice (some ⟨b1, off1, none⟩) (n + 1) cap1, cap, ?_, ?_, hor, ?_, ?_, ?_, ?_⟩
  · exact (HB1.out.set o _).set (o + 1) _
  · exact HH1.out.keep hset (fun k hk h => hb1b ((Option.some.inj hk).trans h))
  · exact Nat.lt_of_lt_of_le HL1.out hset.size
  · exact Nat.lt_of_lt_of_le hsz (Nat.le_trans HF2.out.size hset.size)
  · intro j hj
    have h3 : ((w1.setCell ⟨b, o, none⟩ (.slice (some ⟨b1, off1, none⟩) (n + 1) cap1)).setCell ⟨b, o + 1, none⟩ (.int .i64 (t + s.size))).heap[W.heap.size]? = (W.drew.alloc (.cells D 5 fr)).heap[W.heap.size]? := by
      have e1 := hset.block W.heap.size (Nat.lt_of_lt_of_le hsz HF2.out.size) hob
      have e2 := HF2.out.block W.heap.size hsz hgs
      rw [e1, e2]
      show ((W.heap.push _).push _)[W.heap.size]? = (W.heap.push _)[W.heap.size]?
      simp [Array.getElem?_push]
    have hd := HD.out j hj
    rw [World.cell?_of_block (w := W.drew.alloc (.cells D 5 fr)) h3, World.frozen?_of_block (w := W.drew.alloc (.cells D 5 fr)) h3]
    exact hd
  · have e0 : Fr (fun k => k = b ∨ g = some k) w W := HFW.out.mono (fun _ _ h => h.elim)
    exact (e0.trans (HF1.out.mono (fun _ _ h => Or.inr h))).trans (hset.mono (fun _ _ h => Or.inl h))

end Go.Proofs.Ytmbnifnhalgdgaa
