/- The walk over CircuitFull: it returns true. -/
import Derived.Test.YtmbnifnhalgdgaaFails
namespace Go.Proofs.Ytmbnifnhalgdgaa
open Go.RowKit

/-- A slice of numbers that came in. -/
def RowIn (k : IntKind) (w : World) (a : Option Addr) (len cap : Nat) (zs : List Int) : Prop :=
  (a = none ∧ len = 0 ∧ cap = 0 ∧ zs = []) ∨
  ∃ x, a = some x ∧ len ≤ cap ∧ cap ≤ maxLen ∧ zs.length = cap ∧ (∀ i, i < zs.length → w.cell? (x.add i) = some (.int k (zs.getD i 0))) ∧ ∀ n ∈ zs, (Lit.int k n).wf = true

/-- An element of a slice that came in. -/
theorem RowIn.at {k : IntKind} {w : World} {a : Option Addr} {len cap : Nat} {zs : List Int} (h : RowIn k w a len cap zs) (i : Nat) (hi : i < len) :
    ∃ b o z, a = some ⟨b, o, none⟩ ∧ w.cell? ⟨b, o + i, none⟩ = some (.int k z) ∧ (Lit.int k z).wf = true := by
  rcases h with ⟨_, rfl, _, _⟩ | ⟨x, rfl, hl, _, hz, hc, hw⟩
  · omega
  · obtain ⟨b, o, rfl, hc'⟩ := Go.ints_at hc (by omega)
    have h2 := hc' i (by omega)
    refine ⟨b, o, zs.getD i 0, rfl, h2, ?_⟩
    have hi' : i < zs.length := by omega
    rw [List.getD_eq_getElem?_getD, List.getElem?_eq_getElem hi']
    exact hw _ (List.getElem_mem hi')

/-- The bit of 128. -/
def b128 (n : Int) : Int := bits .and .i64 n 128
@[go_sem] theorem and128 (n : Int) : bits .and .i64 n 128 = b128 n := rfl

def zeros (k : Nat) : ByteArray := ⟨(List.replicate k 0).toArray⟩
theorem zeros_size (k : Nat) : (zeros k).size = k := by simp [zeros, ByteArray.size]
theorem zeros_list (k : Nat) : (zeros k).data.toList = List.replicate k 0 := by simp [zeros]

theorem make_bytes (n : Nat) (hn : n ≤ 1000) (w : World) :
    (Instr.makeSlice 43 (.int .i64 (n : Int)) (.int .i64 (n : Int))).run Try.prog w = .ok (.slice (some ⟨w.heap.size, 0, none⟩) n n) (w.alloc (.cells (madeCells #[.int .u8 0] n) 5)) := by
  obtain ⟨i, hi, hz, hs, hb⟩ := info_parts info5
  have hr := run_make (P := Try.prog) w 43 5 i (.int .u8 0) Try.underlying43 hi hz .i64 .i64 n n (by omega) (Int.le_refl _) (by rw [hb]; omega) (by omega)
  simp only [Int.toNat_natCast, hs, Nat.mul_one] at hr
  exact hr

theorem conv_zeros (n : Nat) (w : World) :
    (convert 43 9 (.slice (some ⟨w.heap.size, 0, none⟩) n n)).run Try.prog (w.alloc (.cells (madeCells #[.int .u8 0] n) 5)) = .ok (.string (zeros n)) (w.alloc (.cells (madeCells #[.int .u8 0] n) 5)) := by
  have hb := Blk.new w (madeCells #[.int .u8 0] n) 5
  have := conv_back (w := w.alloc (.cells (madeCells #[.int .u8 0] n) 5)) (u := .slice (some ⟨w.heap.size, 0, none⟩) n n) (l := List.replicate n 0) (Or.inr ⟨w.heap.size, n, by simp, fun j hj => ?_⟩)
  · exact this
  · rw [hb.cell j]
    have hj' : j < n := by simpa using hj
    simp [madeCells, hj', Nat.mod_one]

/-- What the one pipe holds. -/
def FullAt (m held : Int) (S : SwS) : Prop := S.most = m ∧ ∃ q, S.up 1 = some q ∧ (q.2.ps.flatten.length : Int) = held ∧ q.2.lost = 0

theorem side1 : Side 1 := Or.inr rfl
theorem side0 : Side 0 := Or.inl rfl

theorem FullAt.send_big {m held : Int} {S : SwS} (h : FullAt m held S) (k : Nat) (hk : m < held + k) : sendS S 1 1 (zeros k).data.toList = (2500, S) := by
  obtain ⟨h1, q, h2, h3, h4⟩ := h
  unfold sendS
  rw [h2]
  simp only
  have e : (getPip q 1) = q.2 := rfl
  rw [if_pos side1, if_pos ?_]
  rw [e, zeros_list, List.length_replicate]
  omega

theorem FullAt.send {m held : Int} {S : SwS} (h : FullAt m held S) (k : Nat) (hk : held + k ≤ m) : ∃ S', sendS S 1 1 (zeros k).data.toList = (0, S') ∧ FullAt m (held + k) S' := by
  obtain ⟨h1, q, h2, h3, h4⟩ := h
  have e : (getPip q 1) = q.2 := rfl
  refine ⟨{ S with up := setAt S.up 1 (some (setPip q 1 ⟨(getPip q 1).ps ++ [(zeros k).data.toList], (getPip q 1).lost⟩)) }, ?_, h1, setPip q 1 ⟨(getPip q 1).ps ++ [(zeros k).data.toList], (getPip q 1).lost⟩, setAt_same S.up 1 _, ?_, ?_⟩
  · unfold sendS
    rw [h2]
    simp only
    rw [if_pos side1, if_neg, if_neg]
    · rw [e, h4]; omega
    · rw [e, zeros_list, List.length_replicate]; omega
  · show (((getPip q 1).ps ++ [(zeros k).data.toList]).flatten.length : Int) = held + k
    rw [e, List.flatten_append, List.length_append, List.flatten_singleton, zeros_list, List.length_replicate]
    omega
  · exact h4

theorem FullAt.read {m held : Int} {S : SwS} (h : FullAt m held S) : ∃ l S', readS S 1 0 = ((l, 0), S') ∧ (l.length : Int) = held ∧ FullAt m 0 S' := by
  obtain ⟨h1, q, h2, h3, h4⟩ := h
  have e : (getPip q (1 - 0)) = q.2 := rfl
  refine ⟨(getPip q (1 - 0)).ps.flatten, { S with up := setAt S.up 1 (some (setPip q (1 - 0) ⟨[], (getPip q (1 - 0)).lost⟩)) }, ?_, ?_, h1, setPip q (1 - 0) ⟨[], (getPip q (1 - 0)).lost⟩, setAt_same S.up 1 _, rfl, ?_⟩
  · unfold readS
    rw [h2]
    simp only
    rw [if_pos side0]
  · rw [e]; exact h3
  · exact h4

def F1 (m : Int) : SwS := (dialS (newS 1 m) 1 0).2
theorem f1 (m : Int) : dialS (newS 1 m) 1 0 = ((1, 0), F1 m) := rfl
theorem f1_full (m : Int) : FullAt m 0 (F1 m) := ⟨rfl, (⟨[], 0⟩, ⟨[], 0⟩), rfl, rfl, rfl⟩

set_option maxRecDepth 100000 in
set_option maxHeartbeats 1000000 in
theorem full_walk (a0 : Int) (a1 : Option Addr) (len1 cap1 : Nat) (z1 : List Int) (w : World) (_ : (Lit.int .i64 a0).wf = true) (h1 : RowIn .i64 w a1 len1 cap1 z1) :
    Calls Try.prog 6 #[.int .i64 a0, .slice a1 len1 cap1] w fun e w' => e = .returned (.bool true) ∧ Below w.heap.size w w' := by
  have m0 : 0 ≤ a0 % 256 := by omega
  have m1 : a0 % 256 ≤ 255 := by omega
  have H1 := Lib.hid h1; clear h1
  have HL0 := Lib.hid (show (newS 1 (1 + a0 % 256)).last ≤ 1000000000 from by show (0 : Int) ≤ 1000000000; omega)
  have HF1 := Lib.hid (Few.dial (Few.new 1 (1 + a0 % 256)) 1 0)
  have HA1 := Lib.hid (f1_full (1 + a0 % 256))
  go_enter Try.func6, Try.ntmps6
  go_wp2_with fail
  refine (awake_ok _).mono ?_
  rintro e wa ⟨rfl, hs⟩
  have SA := Lib.hid hs; clear hs
  go_wp2_with fail
  refine (swb_new 1 (1 + a0 % 256) _ (by omega) (by omega) (by omega) (by omega)).mono ?_
  rintro e wb ⟨sb, rfl, hq⟩
  have HB := Lib.hid (hq.trans SA.out); clear hq SA
  go_wp2_with fail
  refine (swb_dial HB.out HL0.out 1 0 _ (f1 _)).mono ?_
  rintro e wc ⟨rfl, hq⟩
  have HC := Lib.hid hq; clear hq HB
  go_wp2_with fail
  go_loopw [10, 11] (fun u i wr => ∃ (i' : Nat) (held : Int) (S : SwS), i' ≤ 40 ∧ i = .int .i64 i' ∧ u = .int .i64 held ∧ 0 ≤ held ∧ held ≤ 1 + a0 % 256 ∧ FullAt (1 + a0 % 256) held S ∧ S.Few (i' + 1) ∧ SwB w wr sb S) (fun _ i _ => 40 - (intOf i).toNat)
  case atStart => exact ⟨0, 0, _, by omega, rfl, rfl, by omega, by omega, HA1.out, HF1.out, HC.out⟩
  case round =>
    obtain ⟨i, held, S, hi, rfl, rfl, hh0, hh1, hfa, hfew, hsw⟩ := hrel
    clear HC HF1 HA1 HL0
    have HFA := Lib.hid hfa; clear hfa
    have HFW := Lib.hid hfew; clear hfew
    have HSW := Lib.hid hsw; clear hsw
    by_cases hlt : i < len1 ∧ i < 40
    · obtain ⟨hl1, hl2⟩ := hlt
      obtain ⟨b3, o3, z, rfl, d0, _⟩ := RowIn.at H1.out i hl1
      have D0 := Lib.hid d0; clear d0
      have d3 := cell_keep D0.out HSW.out.same id
      obtain ⟨k, hk⟩ : ∃ k : Nat, z % 128 = (k : Int) := ⟨(z % 128).toNat, by omega⟩
      have hk2 : k ≤ 127 := by omega
      have hmk := make_bytes k (by omega) wr
      have hcv := conv_zeros k wr
      have hzs : (zeros k).size ≤ maxLen := by rw [zeros_size]; unfold maxLen; omega
      have HZS := Lib.hid hzs; clear hzs
      have hsw2 : SwB w (wr.alloc (.cells (madeCells #[.int .u8 0] k) 5)) sb S := by
        obtain ⟨own, g1, g2, g3⟩ := HSW.out
        exact ⟨own, g1.keep ((Fr.refl (fun _ => False) wr).alloc _) (fun _ _ _ h => h), g2, g3.alloc _⟩
      have HSW2 := Lib.hid hsw2; clear hsw2
      by_cases hfit : held + k ≤ 1 + a0 % 256
      · obtain ⟨S', hr, hfa'⟩ := HFA.out.send k hfit
        have hfw' := Few.send HFW.out 1 1 (zeros k).data.toList
        rw [hr] at hfw'
        have HR := Lib.hid hr; clear hr
        have HFA' := Lib.hid hfa'; clear hfa'
        have HFW' := Lib.hid hfw'; clear hfw'
        go_wp2_with fail
        refine (swb_send HSW2.out HFW.out (by omega) 1 wf1 1 (zeros k) HZS.out _ HR.out).mono ?_
        rintro e wd ⟨rfl, hq⟩
        have HD := Lib.hid hq; clear hq
        have d4 := cell_keep D0.out HD.out.same id
        clear hmk hcv d3
        by_cases hb : b128 z = 128
        · obtain ⟨l, S2, hr2, hl, hfa2⟩ := HFA'.out.read
          have hfw2 := Few.read HFW'.out 1 0
          rw [hr2] at hfw2
          have HR2 := Lib.hid hr2; clear hr2
          have HFA2 := Lib.hid hfa2; clear hfa2
          have HFW2 := Lib.hid hfw2; clear hfw2
          have hsz : ((⟨l.toArray⟩ : ByteArray).size : Int) = held + k := by rw [← hl]; simp [ByteArray.size]
          generalize hsr : (⟨l.toArray⟩ : ByteArray) = sr at hsz
          have HSR := Lib.hid hsr; clear hsr hl
          go_wp2_with (first | (go_at_call 12; refine (num_any _ _).mono ?_; rintro e w2 ⟨rfl, rfl⟩) | (go_at_call 18; refine (swb_read HD.out HFW'.out (by omega) 1 wf1 0 (by decide) _ HR2.out).mono ?_; rintro e we ⟨rfl, hq⟩; have HE := Lib.hid hq; clear hq; rw [HSR.out]))
          go_roundw
          case rel => exact ⟨i + 1, 0, S2, by omega, by go_num, rfl, by omega, by omega, HFA2.out, Few.mono HFW2.out (by omega), HE.out⟩
          case measure => simp [intOf]; omega
        · go_wp2_with (go_at_call 12; refine (num_any _ _).mono ?_; rintro e w2 ⟨rfl, rfl⟩)
          go_roundw
          case rel => exact ⟨i + 1, held + k, S', by omega, by go_num, rfl, by omega, by omega, HFA'.out, Few.mono HFW'.out (by omega), HD.out⟩
          case measure => simp [intOf]; omega
      · have hr := HFA.out.send_big k (by omega)
        have HR := Lib.hid hr; clear hr
        have hbig : 1 + a0 % 256 < held + (k : Int) := by omega
        go_wp2_with fail
        refine (swb_send HSW2.out HFW.out (by omega) 1 wf1 1 (zeros k) HZS.out _ HR.out).mono ?_
        rintro e wd ⟨rfl, hq⟩
        have HD := Lib.hid hq; clear hq
        have d4 := cell_keep D0.out HD.out.same id
        clear hmk hcv d3
        by_cases hb : b128 z = 128
        · obtain ⟨l, S2, hr2, hl, hfa2⟩ := HFA.out.read
          have hfw2 := Few.read HFW.out 1 0
          rw [hr2] at hfw2
          have HR2 := Lib.hid hr2; clear hr2
          have HFA2 := Lib.hid hfa2; clear hfa2
          have HFW2 := Lib.hid hfw2; clear hfw2
          have hsz : ((⟨l.toArray⟩ : ByteArray).size : Int) = held := by rw [← hl]; simp [ByteArray.size]
          generalize hsr : (⟨l.toArray⟩ : ByteArray) = sr at hsz
          have HSR := Lib.hid hsr; clear hsr hl
          go_wp2_with (first | (go_at_call 12; refine (num_any _ _).mono ?_; rintro e w2 ⟨rfl, rfl⟩) | (go_at_call 18; refine (swb_read HD.out HFW.out (by omega) 1 wf1 0 (by decide) _ HR2.out).mono ?_; rintro e we ⟨rfl, hq⟩; have HE := Lib.hid hq; clear hq; rw [HSR.out]))
          go_roundw
          case rel => exact ⟨i + 1, 0, S2, by omega, by go_num, rfl, by omega, by omega, HFA2.out, Few.mono HFW2.out (by omega), HE.out⟩
          case measure => simp [intOf]; omega
        · go_wp2_with (go_at_call 12; refine (num_any _ _).mono ?_; rintro e w2 ⟨rfl, rfl⟩)
          go_roundw
          case rel => exact ⟨i + 1, held, S, by omega, by go_num, rfl, by omega, by omega, HFA.out, Few.mono HFW.out (by omega), HD.out⟩
          case measure => simp [intOf]; omega
    · have hx : (¬ i < len1) ∨ (i < len1 ∧ ¬ i < 40) := by omega
      clear hlt
      rcases hx with hx | ⟨hx1, hx2⟩
      all_goals
        go_wp2_with (go_at_call 12; refine (num_any _ _).mono ?_; rintro e w2 ⟨rfl, rfl⟩)
        go_ret
        exact ⟨rfl, Same.below HSW.out.same⟩

end Go.Proofs.Ytmbnifnhalgdgaa
