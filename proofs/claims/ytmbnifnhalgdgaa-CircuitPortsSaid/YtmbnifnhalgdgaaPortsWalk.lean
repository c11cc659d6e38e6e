/- The walk over CircuitPorts: it returns true. -/
import Derived.Test.YtmbnifnhalgdgaaPorts
import Derived.Deep.CutBlock
namespace Go.Proofs.Ytmbnifnhalgdgaa
open Go.RowKit

theorem info3 : (Try.prog.info? 3).map (fun i => (i.zero, i.size, i.bytes)) = some (some (.int .i64 0), 1, 8) := by kernel_rfl

set_option maxRecDepth 100000 in
set_option maxHeartbeats 2000000 in
theorem ports_walk (a0 : Int) (a1 : Option Addr) (len1 cap1 : Nat) (z1 : List Int) (w : World) (_ : (Lit.int .i64 a0).wf = true) (h1 : RowIn .i64 w a1 len1 cap1 z1) :
    Calls Try.prog 5 #[.int .i64 a0, .slice a1 len1 cap1] w fun e w' => e = .returned (.bool true) ∧ Below w.heap.size w w' := by
  have m0 : 0 ≤ a0 % 8 := by omega
  have m1 : a0 % 8 ≤ 7 := by omega
  have H1 := Lib.hid h1; clear h1
  obtain ⟨i3, hi3, hz0, hz1, hz2⟩ := info_parts info3
  have HI := Lib.hid (And.intro hi3 (And.intro hz0 (And.intro hz1 hz2))); clear hi3 hz0 hz1 hz2
  have tokB : True := trivial
  have HP0 := Lib.hid (PoAt.start (1 + a0 % 8) 100)
  go_enter Try.func5, Try.ntmps5
  go_wp2_with fail
  refine (awake_ok _).mono ?_
  rintro e wa ⟨rfl, hs⟩
  have SA := Lib.hid hs; clear hs
  go_wp2_with fail
  refine (swb_new (1 + a0 % 8) 100 _ (by omega) (by omega) (by omega) (by omega)).mono ?_
  rintro e wb ⟨sb, rfl, hq⟩
  have HB := Lib.hid (PoB.start (hq.trans SA.out)); clear hq SA
  go_wp2_with fail
  go_loopw [8, 9, 10] (fun v l i wr => ∃ (i' : Nat) (S : SwS) (U : List Int), i' ≤ 100 ∧ i = .int .i64 i' ∧ l = .int .i64 S.last ∧ 0 ≤ S.last ∧ S.last ≤ i' ∧ (U.length : Int) ≤ 1 + a0 % 8 ∧ PoAt (1 + a0 % 8) S U ∧ PoB w wr sb S v U) (fun _ _ i _ => 100 - (intOf i).toNat)
  case atStart => exact ⟨0, _, [], by omega, rfl, rfl, Int.le_refl _, Int.le_refl _, by show (0 : Int) ≤ _; omega, HP0.out, HB.out⟩
  case round =>
    obtain ⟨i, S, U, hi, rfl, rfl, hl0, hl1, hul, hpo, hpb⟩ := hrel
    clear HB HP0
    have HPO := Lib.hid hpo; clear hpo
    have HPB := Lib.hid hpb; clear hpb
    by_cases hlt : i < len1 ∧ i < 100
    · obtain ⟨hl1', hl2⟩ := hlt
      obtain ⟨b3, o3, z, rfl, d0, _⟩ := RowIn.at H1.out i hl1'
      have D0 := Lib.hid d0; clear d0
      have d3 := cell_keep D0.out HPB.out.same id
      obtain ⟨ao, cap, rfl⟩ : ∃ ao cap, u8 = .slice ao U.length cap := by
        rcases HPB.out.row with ⟨rfl, rfl⟩ | ⟨b, off, cap, rfl, _⟩
        · exact ⟨none, 0, rfl⟩
        · exact ⟨_, _, rfl⟩
      have x0 : 0 ≤ z / 2 % 2 := by omega
      have x1 : z / 2 % 2 ≤ 1 := by omega
      have hside : Side (z / 2 % 2) := by unfold Side; omega
      have HX := Lib.hid hside; clear hside
      have hlk : S.last ≤ 1000000000 := by omega
      have HL := Lib.hid hlk; clear hlk
      by_cases hd : z % 2 = 0 ∨ U.length = 0
      · have hz : z % 2 = 0 ∨ (z % 2 ≠ 0 ∧ ((U.length : Int) == 0) = true) := by
          by_cases h : z % 2 = 0
          · exact Or.inl h
          · exact Or.inr ⟨h, beq_iff_eq.2 (by omega)⟩
        clear hd
        by_cases hfull : (U.length : Int) < 1 + a0 % 8
        · obtain ⟨S', hr, hpo', hla⟩ := HPO.out.dial _ HX.out hfull
          have hn : (S'.n : Int) = (U.length : Int) + 1 := by rw [hpo'.n]; simp
          have HN := Lib.hid hn; clear hn
          have HR := Lib.hid hr; clear hr
          have HPO' := Lib.hid hpo'; clear hpo'
          have HLA := Lib.hid hla; clear hla
          rcases hz with hz | ⟨hz, hu⟩
          all_goals
            go_wp2_with fail
            have hwr : IntKind.i64.wrap (1 - z / 2 % 2) = 1 - z / 2 % 2 := by rw [IntKind.wrap_i64]; omega
            go_region_held3 (fun w' => w'.cell? ⟨b3, o3 + i, none⟩ = some (.int .i64 z)) (first | exact d3 | exact d4)
              ((go_at_call 11; refine (PoB.call (HPB.out.drewN 1) (fun own h => sw_dial h HL.out _ _ _ HR.out)).mono ?_; rintro e w1 ⟨rfl, hq⟩; have d4 := cell_keep D0.out hq.same id; have HQ := Lib.hid hq; clear hq))
            clear hwr
            obtain ⟨own, g, q1, q2, q3, q4, q5⟩ := HQ.out
            have Q := Lib.hid (And.intro q1 (And.intro q2 (And.intro q3 (And.intro q4 q5)))); clear q1 q2 q3 q4 q5
            go_wp2_with (first | (go_at_call 12; refine (num_any _ _).mono ?_; rintro e w2 ⟨rfl, rfl⟩) | (at_builtin; refine wpList_append_holds _ rfl _ _ 40 rfl 3 i3 (.int .i64 0) 1 8 Try.underlying40 HI.out.1 HI.out.2.1 HI.out.2.2.1 HI.out.2.2.2 rfl (by decide) g (.slice ao U.length cap) U.length (U.map (Value.int .i64)) rfl (Q.out.2.2.2.1.keep ((Fr.refl (fun _ => False) w1).alloc _) (fun _ _ h => h)) ⟨w1.heap.size, 0, none⟩ 1 1 [.int .i64 (S.last + 1)] rfl rfl (cell_one_new _ _ _) (by simp [Value.oneCell']) (by decide) (by unfold maxLen; omega) (by omega) ?_))
            intro b off cap' w2 hh hor hlt hf
            have hor' : g = some b ∨ w1.heap.size ≤ b := by
              rcases hor with h | h
              · exact Or.inl h
              · right; (try simp at h); omega
            have hp2 := po_app Q.out.1 Q.out.2.1 Q.out.2.2.1 Q.out.2.2.2.1 Q.out.2.2.2.2 hf b _ _ hh hor'
            have HP2 := Lib.hid hp2; clear hp2 hh hor hor' hlt hf
            clear d3 d4
            go_wp2_with (first | (have _t := tokB; go_at_call 13; refine (HP2.out.busy 0 (Or.inl rfl) _ HN.out).mono ?_; rintro e w2 ⟨rfl, rfl⟩; clear tokB) | (go_at_call 13; refine (HP2.out.busy 1 (Or.inr rfl) _ HN.out).mono ?_; rintro e w2 ⟨rfl, rfl⟩))
            go_roundw
            case rel => exact ⟨i + 1, S', U ++ [S.last + 1], by omega, by go_num, by rw [HLA.out], by rw [HLA.out]; omega, by rw [HLA.out]; omega, by rw [List.length_append]; simp; omega, HPO'.out, HP2.out⟩
            case measure => simp [intOf]; omega
        · have hr := HPO.out.full _ HX.out hfull
          have hn : (S.n : Int) = (U.length : Int) := by rw [HPO.out.n]
          have HN := Lib.hid hn; clear hn
          have HR := Lib.hid hr; clear hr
          rcases hz with hz | ⟨hz, hu⟩
          all_goals
            go_wp2_with fail
            have hwr : IntKind.i64.wrap (1 - z / 2 % 2) = 1 - z / 2 % 2 := by rw [IntKind.wrap_i64]; omega
            go_region_held3 (fun w' => w'.cell? ⟨b3, o3 + i, none⟩ = some (.int .i64 z)) (first | exact d3 | exact d4)
              ((go_at_call 11; refine (PoB.call (HPB.out.drewN 1) (fun own h => sw_dial h HL.out _ _ _ HR.out)).mono ?_; rintro e w1 ⟨rfl, hq⟩; have d4 := cell_keep D0.out hq.same id; have HQ := Lib.hid hq; clear hq))
            clear hwr d3 d4
            go_wp2_with (first | (go_at_call 12; refine (num_any _ _).mono ?_; rintro e w2 ⟨rfl, rfl⟩) | (have _t := tokB; go_at_call 13; refine (HQ.out.busy 0 (Or.inl rfl) _ HN.out).mono ?_; rintro e w2 ⟨rfl, rfl⟩; clear tokB) | (go_at_call 13; refine (HQ.out.busy 1 (Or.inr rfl) _ HN.out).mono ?_; rintro e w2 ⟨rfl, rfl⟩))
            go_roundw
            case rel => exact ⟨i + 1, S, U, by omega, by go_num, rfl, hl0, by omega, hul, HPO.out, HQ.out⟩
            case measure => simp [intOf]; omega
      · have hz : z % 2 ≠ 0 := by omega
        have hu0 : ((U.length : Int) == 0) = false := by rw [beq_eq_false_iff_ne]; omega
        have hu1 : 0 < U.length := by omega
        have hu2 : U.length ≤ 8 := by omega
        clear hd
        obtain ⟨b, off, hcap, hcell⟩ : ∃ b off, ao = some ⟨b, off, none⟩ ∧ U.length ≤ cap ∧ ∀ j (hj : j < U.length), wr.cell? ⟨b, off + j, none⟩ = some (.int .i64 U[j]) := by
          rcases HPB.out.row with ⟨h, hU⟩ | ⟨b, off, cap', h, hc, hcl⟩
          · rw [hU] at hu1; simp at hu1
          · cases h
            exact ⟨b, off, rfl, hc, hcl⟩
        subst hcap
        obtain ⟨hcap, hcell⟩ := hcell
        have HCL := Lib.hid hcell; clear hcell
        go_upto_region 20 with fail
        obtain ⟨k, hk, hkk⟩ := pick_is z U.length hu1 hu2
        rw [hkk]
        clear hkk
        obtain ⟨S', hr1, hr2, hpo', hla⟩ := HPO.out.hang k hk
        have hwf : (Lit.int .i64 U[k]).wf = true := by
          have h1 := HPO.out.le U[k] (List.getElem_mem hk)
          have h2 := HPO.out.up U[k] (List.getElem_mem hk)
          obtain ⟨own, g, q1, _⟩ := HPB.out
          obtain ⟨q, hq⟩ := Option.isSome_iff_exists.1 h2
          have h3 := (sw_ok q1).up _ q hq
          exact WalkArith.wf_i64 (by omega)
        have e1 := HCL.out k hk
        have hlen : (U.take k ++ U.drop (k + 1)).length = U.length - 1 := by rw [List.length_append, List.length_take, List.length_drop]; omega
        have hn : (S'.n : Int) = ((U.take k ++ U.drop (k + 1)).length : Int) := by rw [hpo'.n]
        generalize hc : U[k] = c at *
        clear hc
        have WF := Lib.hid hwf; clear hwf
        have R1 := Lib.hid hr1; clear hr1
        have R2 := Lib.hid hr2; clear hr2
        have HPO' := Lib.hid hpo'; clear hpo'
        have HLA := Lib.hid hla; clear hla
        have HLEN := Lib.hid hlen; clear hlen
        have HN := Lib.hid hn; clear hn
        go_wp2_with fail
        refine (PoB.call HPB.out (fun own h => sw_hang h c WF.out _ R1.out)).mono ?_
        rintro e w1 ⟨rfl, hq⟩
        have e2 : w1.cell? ⟨b, off + k, none⟩ = some (.int .i64 c) := by
          have a1 := HCL.out k hk
          have a2 := hq.cellAt.2 k hk
          rw [a2, ← a1, e1]
        have HQ1 := Lib.hid hq; clear hq
        clear e1
        go_wp2_with fail
        refine (PoB.call HQ1.out (fun own h => sw_hang h c WF.out _ R2.out)).mono ?_
        rintro e w2 ⟨rfl, hq⟩
        have HQ2 := Lib.hid hq; clear hq
        clear e2 d3
        have HC2 := Lib.hid HQ2.out.cellAt.2
        go_wp2_with (first | (go_at_call 12; refine (num_any _ _).mono ?_; rintro e w3 ⟨rfl, rfl⟩) | (at_builtin; refine wpList_append_own _ rfl _ _ 40 rfl w2.heap.size 3 i3 (.int .i64 0) 1 8 Try.underlying40 HI.out.1 HI.out.2.1 HI.out.2.2.1 HI.out.2.2.2 rfl (by decide) (.slice none 0 0) 0 [] rfl (World.ownsRow_nil _ _ _ _) ⟨b, off, none⟩ k cap ((U.take k).map (Value.int .i64)) rfl (by rw [List.length_map, List.length_take]; omega) (head_cells HC2.out k) (ints_one _) (by unfold maxLen; omega) (by omega) (Nat.le_refl _) ?_))
        intro v1 w3 hown1 hgr1 hnil1
        have hc3 : ∀ j (hj : j < U.length), w3.cell? ⟨b, off + j, none⟩ = some (.int .i64 U[j]) := fun j hj => cell_keep (HC2.out j hj) (fr_grown hgr1 (fun _ => False)) id
        have hlk2 : (U.take k).length = k := by rw [List.length_take]; omega
        have hld2 : (U.drop (k + 1)).length = U.length - (k + 1) := List.length_drop ..
        have hown2 : w3.ownsRow w2.heap.size 3 1 v1 k ((U.take k).map (Value.int .i64)) := by simpa using hown1
        have HO1 := Lib.hid hown2; clear hown1 hown2
        have HG1 := Lib.hid hgr1; clear hgr1
        have HC3 := Lib.hid hc3; clear hc3 hnil1
        have LK := Lib.hid hlk2; clear hlk2
        have LD := Lib.hid hld2; clear hld2
        have hbase := HG1.out.size
        by_cases hc1 : cap = k + 1
        · have hdn : U.drop (k + 1) = [] := List.drop_eq_nil_of_le (by omega)
          have DN := Lib.hid hdn; clear hdn
          go_wp2_with (at_builtin; refine wpList_append_own _ rfl _ _ 40 rfl w2.heap.size 3 i3 (.int .i64 0) 1 8 Try.underlying40 HI.out.1 HI.out.2.1 HI.out.2.2.1 HI.out.2.2.2 rfl (by decide) v1 k ((U.take k).map (Value.int .i64)) rfl HO1.out ⟨b, off, none⟩ (U.length - (k + 1)) 0 ((U.drop (k + 1)).map (Value.int .i64)) rfl (by rw [List.length_map, LD.out, Nat.mul_one]) (by rw [DN.out]; intro j u hu; simp at hu) (ints_one _) (by unfold maxLen; omega) (by omega) hbase ?_)
          intro v2 w4 hown3 hgr2 hnil2
          have hp4 : PoB w w4 sb S' v2 (U.take k ++ U.drop (k + 1)) := po_left HQ2.out (by rw [LK.out]; exact HO1.out) HG1.out (by rw [LK.out, LD.out]; simpa using hown3) hgr2
          obtain ⟨N, hN⟩ : ∃ N, (U.take k ++ U.drop (k + 1)).length = N := ⟨_, rfl⟩
          obtain ⟨ao2, cap2, rfl⟩ : ∃ ao cap, v2 = .slice ao N cap := by
            rcases hp4.row with ⟨h1, h2⟩ | ⟨b, off, cap, h1, _⟩
            · rw [h2] at hN; subst hN; exact ⟨none, 0, h1⟩
            · rw [hN] at h1; exact ⟨_, _, h1⟩
          have hN2 : (N : Int) ≤ 1 + a0 % 8 := by have := HLEN.out; omega
          have hN3 : N ≤ 8 := by omega
          have HP4 := Lib.hid hp4
          have HN2 : Hid ((S'.n : Int) = (N : Int)) := Lib.hid (by rw [HN.out, hN])
          have HNL := Lib.hid (show ((U.take k ++ U.drop (k + 1)).length : Int) ≤ 1 + a0 % 8 from by omega)
          clear hp4 hN hN2 hown3 hgr2 hnil2
          go_wp2_with (first | (have _t := tokB; go_at_call 13; refine (HP4.out.busy 0 (Or.inl rfl) _ HN2.out).mono ?_; rintro e w5 ⟨rfl, rfl⟩; clear tokB) | (go_at_call 13; refine (HP4.out.busy 1 (Or.inr rfl) _ HN2.out).mono ?_; rintro e w5 ⟨rfl, rfl⟩))
          go_roundw
          case rel => exact ⟨i + 1, S', U.take k ++ U.drop (k + 1), by omega, by go_num, by rw [HLA.out], by rw [HLA.out]; omega, by rw [HLA.out]; omega, HNL.out, HPO'.out, HP4.out⟩
          case measure => simp [intOf]; omega
        · go_wp2_with (at_builtin; refine wpList_append_own _ rfl _ _ 40 rfl w2.heap.size 3 i3 (.int .i64 0) 1 8 Try.underlying40 HI.out.1 HI.out.2.1 HI.out.2.2.1 HI.out.2.2.2 rfl (by decide) v1 k ((U.take k).map (Value.int .i64)) rfl HO1.out ⟨b, off + (k + 1), none⟩ (U.length - (k + 1)) (cap - (k + 1)) ((U.drop (k + 1)).map (Value.int .i64)) rfl (by rw [List.length_map, LD.out, Nat.mul_one]) (tail_cells HC3.out (k + 1)) (ints_one _) (by unfold maxLen; omega) (by omega) hbase ?_)
          intro v2 w4 hown3 hgr2 hnil2
          have hp4 : PoB w w4 sb S' v2 (U.take k ++ U.drop (k + 1)) := po_left HQ2.out (by rw [LK.out]; exact HO1.out) HG1.out (by rw [LK.out, LD.out]; simpa using hown3) hgr2
          obtain ⟨N, hN⟩ : ∃ N, (U.take k ++ U.drop (k + 1)).length = N := ⟨_, rfl⟩
          obtain ⟨ao2, cap2, rfl⟩ : ∃ ao cap, v2 = .slice ao N cap := by
            rcases hp4.row with ⟨h1, h2⟩ | ⟨b, off, cap, h1, _⟩
            · rw [h2] at hN; subst hN; exact ⟨none, 0, h1⟩
            · rw [hN] at h1; exact ⟨_, _, h1⟩
          have hN2 : (N : Int) ≤ 1 + a0 % 8 := by have := HLEN.out; omega
          have hN3 : N ≤ 8 := by omega
          have HP4 := Lib.hid hp4
          have HN2 : Hid ((S'.n : Int) = (N : Int)) := Lib.hid (by rw [HN.out, hN])
          have HNL := Lib.hid (show ((U.take k ++ U.drop (k + 1)).length : Int) ≤ 1 + a0 % 8 from by omega)
          clear hp4 hN hN2 hown3 hgr2 hnil2
          go_wp2_with (first | (have _t := tokB; go_at_call 13; refine (HP4.out.busy 0 (Or.inl rfl) _ HN2.out).mono ?_; rintro e w5 ⟨rfl, rfl⟩; clear tokB) | (go_at_call 13; refine (HP4.out.busy 1 (Or.inr rfl) _ HN2.out).mono ?_; rintro e w5 ⟨rfl, rfl⟩))
          go_roundw
          case rel => exact ⟨i + 1, S', U.take k ++ U.drop (k + 1), by omega, by go_num, by rw [HLA.out], by rw [HLA.out]; omega, by rw [HLA.out]; omega, HNL.out, HPO'.out, HP4.out⟩
          case measure => simp [intOf]; omega
    · have hx : (¬ i < len1) ∨ (i < len1 ∧ ¬ i < 100) := by omega
      clear hlt
      rcases hx with hx | ⟨hx1, hx2⟩
      all_goals
        go_wp2_with (go_at_call 12; refine (num_any _ _).mono ?_; rintro e w2 ⟨rfl, rfl⟩)
        go_ret
        exact ⟨rfl, Same.below HPB.out.same⟩

end Go.Proofs.Ytmbnifnhalgdgaa
