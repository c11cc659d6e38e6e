/- The walk over Read of package circuit. -/
import Derived.Test.YtmbnifnhalgdgaaSend
import Derived.OwnWalk
namespace Go.Proofs.Ytmbnifnhalgdgaa
open Go.RowKit

theorem wf_range {x : Int} (hw : (Lit.int .i64 x).wf = true) : -9223372036854775808 ≤ x ∧ x ≤ 9223372036854775807 := by
  have h : IntKind.i64.min ≤ x ∧ x ≤ IntKind.i64.max := by simpa [Lit.wf] using hw
  exact h

set_option maxRecDepth 100000 in
set_option maxHeartbeats 400000 in
theorem read_none {w : World} (sb : Nat) (c x : Int)
    (h : ∀ y, Calls Try.prog 22 #[.pointer (some ⟨sb, 0, none⟩), .int .i64 c, .int .i64 y] w fun e w' => e = .returned (.tuple #[.pointer none, .int .i64 2502]) ∧ w = w') :
    Calls Try.prog 18 #[.pointer (some ⟨sb, 0, none⟩), .int .i64 c, .int .i64 x] w fun e w' => e = .returned (.tuple #[.string ⟨#[]⟩, .int .i64 2502]) ∧ w = w' := by
  have H := Lib.hid h; clear h
  go_enter Try.func18, Try.ntmps18
  go_wp2_with fail
  refine (H.out _).mono ?_
  rintro e w' ⟨rfl, rfl⟩
  go_wp2
  go_ret2
  exact ⟨rfl, rfl⟩

set_option maxRecDepth 100000 in
set_option maxHeartbeats 400000 in
theorem read_form {w : World} (sb : Nat) (c x : Int) (hx : ¬ Side x) (hw : (Lit.int .i64 x).wf = true)
    (h : ∀ y, ¬ Side y → Calls Try.prog 22 #[.pointer (some ⟨sb, 0, none⟩), .int .i64 c, .int .i64 y] w fun e w' => e = .returned (.tuple #[.pointer none, .int .i64 2500]) ∧ w = w') :
    Calls Try.prog 18 #[.pointer (some ⟨sb, 0, none⟩), .int .i64 c, .int .i64 x] w fun e w' => e = .returned (.tuple #[.string ⟨#[]⟩, .int .i64 2500]) ∧ w = w' := by
  have H := Lib.hid h; clear h
  have HX : Hid (¬ Side (wrap64 (1 - x))) := Lib.hid (by
    have hr := wf_range hw
    unfold Side at *
    unfold wrap64
    omega)
  clear hx hw
  go_enter Try.func18, Try.ntmps18
  go_wp2_with fail
  refine (H.out _ HX.out).mono ?_
  rintro e w' ⟨rfl, rfl⟩
  go_wp2
  go_ret2
  exact ⟨rfl, rfl⟩

/-- The bytes as cells. -/
def bv (b : UInt8) : Value := .int .u8 (b.toNat : Int)

/-- A piece: its bytes; its data's block, capacity; whether it was met. -/
abbrev Pc := List UInt8 × Nat × Nat × Bool
def pcell (q : Pc) : List Value := [.slice (some ⟨q.2.1, 0, none⟩) q.1.length q.2.2.1, .bool q.2.2.2]
def pcs (Q : List Pc) : List Value := Q.flatMap pcell
def bts (Q : List Pc) : List UInt8 := Q.flatMap (·.1)

theorem length_pcs (Q : List Pc) : (pcs Q).length = Q.length * 2 := by
  induction Q with
  | nil => rfl
  | cons q Q ih => simp only [pcs, List.flatMap_cons, List.length_append, List.length_cons] at *; rw [ih]; simp [pcell]; omega

theorem pcs_get (Q : List Pc) : ∀ i (h : i < Q.length), (pcs Q)[i * 2]? = some (.slice (some ⟨Q[i].2.1, 0, none⟩) Q[i].1.length Q[i].2.2.1) ∧ (pcs Q)[i * 2 + 1]? = some (.bool Q[i].2.2.2) := by
  induction Q with
  | nil => intro i h; exact absurd h (by simp)
  | cons q Q ih =>
    intro i h
    cases i with
    | zero => exact ⟨rfl, rfl⟩
    | succ i =>
      have := ih i (by simpa using h)
      have e : pcs (q :: Q) = .slice (some ⟨q.2.1, 0, none⟩) q.1.length q.2.2.1 :: .bool q.2.2.2 :: pcs Q := rfl
      rw [e, show (i + 1) * 2 = i * 2 + 1 + 1 from by omega]
      simpa using this

theorem bts_take (Q : List Pc) (k : Nat) (h : k < Q.length) : bts (Q.take (k + 1)) = bts (Q.take k) ++ Q[k].1 := by
  unfold bts
  rw [List.take_succ_eq_append_getElem h, List.flatMap_append]
  simp

theorem bts_take_le (Q : List Pc) (k : Nat) : (bts (Q.take k)).length ≤ (bts Q).length := by
  have : bts Q = bts (Q.take k) ++ bts (Q.drop k) := by
    unfold bts
    rw [← List.flatMap_append, List.take_append_drop]
  rw [this, List.length_append]
  omega

/-- What is known of a row of bytes of the call's own. -/
theorem owns_view {w : World} {base : Nat} {u : Value} {n : Nat} {l : List UInt8} (h : w.ownsRow base 5 1 u n (l.map bv)) :
    n = l.length ∧ ((u = .slice none 0 0 ∧ l = []) ∨ ∃ b cap, u = .slice (some ⟨b, 0, none⟩) l.length cap ∧ base ≤ b ∧ b < w.heap.size ∧ ∀ j (hj : j < l.length), w.cell? ⟨b, j, none⟩ = some (.int .u8 (l[j].toNat : Int))) := by
  obtain ⟨h1, h2⟩ := h
  have hn : n = l.length := by simpa using h1.symm
  subst hn
  refine ⟨rfl, ?_⟩
  rcases h2 with ⟨hv, h0⟩ | ⟨b, cap, cur, hv, hb, hg, hnc, hcm, hcs, ht⟩
  · exact Or.inl ⟨hv, List.eq_nil_of_length_eq_zero h0⟩
  · refine Or.inr ⟨b, cap, hv, hb, (Array.getElem?_eq_some_iff.1 hg).1, fun j hj => ?_⟩
    have e : (l.map bv)[j]? = some (bv l[j]) := by simp [hj]
    rw [← ht, List.getElem?_take_of_lt (by simpa using hj)] at e
    simp only [World.cell?, hg]
    simpa [bv] using e

theorem add_plain (b j : Nat) : (⟨b, 0, none⟩ : Addr).add j = ⟨b, j, none⟩ := by
  unfold Addr.add
  split <;> simp_all

theorem data_cells {w : World} {l : List UInt8} {db : Nat} (h : ∀ j (hj : j < l.length), w.cell? ⟨db, j, none⟩ = some (.int .u8 (l[j].toNat : Int))) :
    ∀ j u, (l.map bv)[j]? = some u → w.cell? ((⟨db, 0, none⟩ : Addr).add j) = some u := by
  intro j u hu
  rw [add_plain]
  obtain ⟨hlt, he⟩ := List.getElem?_eq_some_iff.1 hu
  have hj : j < l.length := by simpa using hlt
  rw [h j hj, ← he]
  simp [bv]

theorem cell_keep {S : Nat → Prop} {w w' : World} {b o : Nat} {v : Value} (h : w.cell? ⟨b, o, none⟩ = some v) (hf : Fr S w w') (hb : ¬ S b) : w'.cell? ⟨b, o, none⟩ = some v := by
  rw [← h]
  exact World.cell?_of_block (w := w) (hf.block b (World.block_lt_of_cell? w _ h) hb)

theorem fr_row {w w' : World} {base : Nat} {u : Value} (h : w.grownBy w' u.ownBlock) (hb : ∀ k, u.ownBlock = some k → base ≤ k) : Fr (fun k => base ≤ k) w w' :=
  ⟨h.os, h.tape, h.output, h.size, fun k hk hn => h.block k hk (fun e => hn (hb k e.symm))⟩

theorem same_row {w0 w w' : World} (h : Fr (fun _ => False) w0 w) (k : Fr (fun k => w0.heap.size ≤ k) w w') : Fr (fun _ => False) w0 w' :=
  ⟨k.os.trans h.os, k.tape.trans h.tape, k.output.trans h.output, Nat.le_trans h.size k.size, fun i hi _ => (k.block i (Nat.lt_of_lt_of_le hi h.size) (by omega)).trans (h.block i hi id)⟩

theorem conv_back {w : World} {u : Value} {l : List UInt8} (h : (u = .slice none 0 0 ∧ l = []) ∨ ∃ b cap, u = .slice (some ⟨b, 0, none⟩) l.length cap ∧ ∀ j (hj : j < l.length), w.cell? ⟨b, j, none⟩ = some (.int .u8 (l[j].toNat : Int))) :
    (convert 43 9 u).run Try.prog w = .ok (.string ⟨l.toArray⟩) w := by
  rcases h with ⟨rfl, rfl⟩ | ⟨b, cap, rfl, hc⟩
  · exact run_convert_bytes_nil w 43 5 Try.underlying43 Try.underlying5 0 0 9 Try.underlying9
  · refine run_convert_bytes_back w 43 9 5 ⟨b, 0, none⟩ cap l Try.underlying43 Try.underlying5 Try.underlying9 (fun j hj => ?_)
    rw [add_plain]
    exact hc j hj

theorem info5 : (Try.prog.info? 5).map (fun i => (i.zero, i.size, i.bytes)) = some (some (.int .u8 0), 1, 1) := by kernel_rfl

set_option maxRecDepth 100000 in
set_option maxHeartbeats 1000000 in
theorem read_ok {w : World} (sb b o : Nat) (c x t : Int) (C : Array Value) (g : Option Nat) (v : Value) (Q : List Pc)
    (hx : 0 ≤ x ∧ x ≤ 1)
    (h : Calls Try.prog 22 #[.pointer (some ⟨sb, 0, none⟩), .int .i64 c, .int .i64 (1 - x)] w fun e w' => e = .returned (.tuple #[.pointer (some ⟨b, o, none⟩), .int .i64 0]) ∧ w = w')
    (hb : Blk w b C 58) (hC0 : C[o]? = some v) (hC1 : C[o + 1]? = some (.int .i64 t))
    (hh : Holds w g 2 v Q.length (pcs Q)) (hn : Q.length ≤ 1000000000) (hbt : (bts Q).length ≤ 65536)
    (hd : ∀ q ∈ Q, ∀ j (hj : j < q.1.length), w.cell? ⟨q.2.1, j, none⟩ = some (.int .u8 (q.1[j].toNat : Int))) :
    Calls Try.prog 18 #[.pointer (some ⟨sb, 0, none⟩), .int .i64 c, .int .i64 x] w fun e w' => e = .returned (.tuple #[.string ⟨(bts Q).toArray⟩, .int .i64 0]) ∧
      Blk w' b ((C.setIfInBounds o (.slice none 0 0)).setIfInBounds (o + 1) (.int .i64 0)) 58 ∧ Fr (fun k => k = b) w w' := by
  obtain ⟨i5, hi, hz0, hz1, hz2⟩ := info_parts info5
  have c0 : w.cell? ⟨b, o, none⟩ = some v := (hb.cell o).trans hC0
  have H := Lib.hid h; clear h
  obtain ⟨x1, x2⟩ := hx
  obtain ⟨hl, hv⟩ := hh
  obtain ⟨a, cap, rfl, hcl⟩ : ∃ a cap, v = .slice a Q.length cap ∧ ∀ j u, (pcs Q)[j]? = some u → ∃ g off, a = some ⟨g, off, none⟩ ∧ w.cell? ⟨g, off + j, none⟩ = some u := by
    rcases hv with ⟨_, rfl, h0⟩ | ⟨g', off, cap, _, rfl, _, _, hc, _⟩
    · refine ⟨none, 0, by rw [h0], fun j u hu => ?_⟩
      have : pcs Q = [] := List.eq_nil_of_length_eq_zero (by rw [hl, h0])
      rw [this] at hu; simp at hu
    · exact ⟨_, cap, rfl, fun j u hu => ⟨g', off, rfl, hc j u hu⟩⟩
  have HB := Lib.hid hb; clear hb
  have HCL := Lib.hid hcl; clear hcl hl hv
  have HD := Lib.hid hd; clear hd
  have HC0 := Lib.hid hC0; clear hC0
  have HC1 := Lib.hid hC1; clear hC1
  have HI := Lib.hid (And.intro hi (And.intro hz0 (And.intro hz1 hz2))); clear hi hz0 hz1 hz2
  go_enter Try.func18, Try.ntmps18
  go_wp2_with fail
  refine H.out.mono ?_
  rintro e w' ⟨rfl, rfl⟩
  go_wp2
  go_loopw [10, 29] (fun u i wr => ∃ k : Nat, k ≤ Q.length ∧ i = .int .i64 k ∧ wr.ownsRow w.heap.size 5 1 u (bts (Q.take k)).length ((bts (Q.take k)).map bv) ∧ Fr (fun _ => False) w wr) (fun _ i _ => Q.length - (intOf i).toNat)
  case atStart => exact ⟨0, Nat.zero_le _, rfl, World.ownsRow_nil _ _ _ _, Fr.refl _ _⟩
  case round =>
    obtain ⟨k, hk, rfl, hown, hfr⟩ := hrel
    have HO := Lib.hid hown; clear hown
    have HF := Lib.hid hfr; clear hfr
    by_cases hlt : k < Q.length
    · obtain ⟨g1, o1, rfl, d0⟩ := HCL.out _ _ (pcs_get Q k hlt).1
      obtain ⟨g2, o2, he, d1⟩ := HCL.out _ _ (pcs_get Q k hlt).2
      cases he
      have lg : g1 < w.heap.size := World.block_lt_of_cell? w _ d0
      have d0' : wr.cell? ⟨g1, o1 + k * 2, none⟩ = some (.slice (some ⟨Q[k].2.1, 0, none⟩) Q[k].1.length Q[k].2.2.1) := (World.cell?_of_block (w := w) (HF.out.block g1 lg id)).trans d0
      have d1' : wr.cell? ⟨g1, o1 + k * 2 + 1, none⟩ = some (.bool Q[k].2.2.2) := (World.cell?_of_block (w := w) (HF.out.block g1 lg id)).trans d1
      have hdk := HD.out Q[k] (List.getElem_mem hlt)
      have hle := bts_take_le Q (k + 1)
      rw [bts_take Q k hlt, List.length_append] at hle
      have HT := Lib.hid (bts_take Q k hlt)
      generalize hM : Q[k] = M at *
      obtain ⟨ml, mb, mc, mm⟩ := M
      simp only at d0 d1 d0' d1' hdk hle
      have HDK := Lib.hid hdk; clear hdk
      clear d0 d1 hM
      go_wp2_with (at_builtin; refine wpList_append_own _ rfl _ _ 43 rfl w.heap.size 5 i5 (.int .u8 0) 1 1 Try.underlying43 HI.out.1 HI.out.2.1 HI.out.2.2.1 HI.out.2.2.2 rfl (by decide) u10 _ _ rfl (HO.out.alloc _) ⟨mb, 0, none⟩ ml.length mc (ml.map bv) rfl (by simp) (data_cells (fun j hj => cell_keep (HDK.out j hj) (HF.out.alloc _) id)) (by simp [bv, Value.oneCell']) (by unfold maxLen; omega) (by omega) (Nat.le_trans HF.out.size (by simp)) ?_)
      intro u' w1 hown1 hgr1 _
      have hown2 : w1.ownsRow w.heap.size 5 1 u' (bts (Q.take (k + 1))).length ((bts (Q.take (k + 1))).map bv) := by
        rw [HT.out, List.length_append, List.map_append]; exact hown1
      have HO1 := Lib.hid hown2; clear hown2 hown1
      have HF1 := Lib.hid (same_row (HF.out.alloc _) (fr_row hgr1 (fun k hk => (HO.out.lt k hk).1))); clear hgr1
      go_wp2
      go_roundw
      case rel => exact ⟨k + 1, by omega, by go_num, HO1.out, HF1.out⟩
      case measure => simp [intOf]; omega
    · have hkk : k = Q.length := by omega
      subst hkk
      rw [List.take_length] at HO
      obtain ⟨_, hview⟩ := owns_view HO.out
      have hb1 : Blk wr b C 58 := HB.out.keep HF.out id
      have c0' : wr.cell? ⟨b, o, none⟩ = some (.slice a Q.length cap) := (hb1.cell o).trans HC0.out
      have c1' : wr.cell? ⟨b, o + 1, none⟩ = some (.int .i64 t) := (hb1.cell (o + 1)).trans HC1.out
      have f0 := hb1.frozen o
      have f1 := hb1.frozen (o + 1)
      have hset : Fr (fun k => k = b) wr ((wr.setCell ⟨b, o, none⟩ (.slice none 0 0)).setCell ⟨b, o + 1, none⟩ (.int .i64 0)) := (fr_set wr b o _).trans (fr_set _ b (o + 1) _)
      have hlb := HB.out.lt
      have hcv : (convert 43 9 u10).run Try.prog ((wr.setCell ⟨b, o, none⟩ (.slice none 0 0)).setCell ⟨b, o + 1, none⟩ (.int .i64 0)) = .ok (.string ⟨(bts Q).toArray⟩) ((wr.setCell ⟨b, o, none⟩ (.slice none 0 0)).setCell ⟨b, o + 1, none⟩ (.int .i64 0)) := by
        refine conv_back ?_
        rcases hview with h | ⟨b', cap', h1, h2, h3, h4⟩
        · exact Or.inl h
        · exact Or.inr ⟨b', cap', h1, fun j hj => cell_keep (h4 j hj) hset (by omega)⟩
      have HSET := Lib.hid hset; clear hset
      have HB1 := Lib.hid hb1; clear hb1
      clear hview
      go_wp2
      go_ret2
      refine ⟨rfl, (HB1.out.set o _).set (o + 1) _, (HF.out.mono (fun _ _ h => h.elim)).trans HSET.out⟩

end Go.Proofs.Ytmbnifnhalgdgaa
