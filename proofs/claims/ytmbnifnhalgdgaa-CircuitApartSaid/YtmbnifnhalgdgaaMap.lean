/- A map from numbers to pointers at whole blocks: plain words and laws for the walk; conditions: none but those written. -/
import Derived.Test.YtmbnifnhalgdgaaMem
import Derived.Maps.OwnSet
namespace Go.Proofs.Ytmbnifnhalgdgaa
open Go.RowKit
open Go.Maps (Keyed)

/-- How a pointer at a block's head reads. -/
def ptrElem : Value → Option (DataW Unit × List MemPlace)
  | .pointer none => some (.lit (.int .i64 (-1)), [])
  | .pointer (some ⟨b, 0, none⟩) => some (.lit (.int .i64 b), [])
  | _ => none

/-- The pointer at a block, if there is one. -/
def ptrOf : Option Nat → Value
  | none => .pointer none
  | some b => .pointer (some ⟨b, 0, none⟩)

def numOf : Option Nat → Int
  | none => -1
  | some b => b

theorem ptrElem_of (o : Option Nat) : ptrElem (ptrOf o) = some (.lit (.int .i64 (numOf o)), []) := by cases o <;> rfl

theorem numOf_inj {a b : Option Nat} (h : numOf a = numOf b) : a = b := by
  cases a <;> cases b <;> simp only [numOf] at h
  · rfl
  · omega
  · omega
  · rw [Int.ofNat.inj h]

theorem ptrElem_num {v : Value} {d : DataW Unit} {ps : List MemPlace} (h : ptrElem v = some (d, ps)) : ∃ o, v = ptrOf o ∧ d = .lit (.int .i64 (numOf o)) := by
  unfold ptrElem at h
  split at h
  · cases h; exact ⟨none, rfl, rfl⟩
  · cases h; exact ⟨some _, rfl, rfl⟩
  · cases h

theorem ptrElem_inv {v : Value} {o : Option Nat} {ps : List MemPlace} (h : ptrElem v = some (.lit (.int .i64 (numOf o)), ps)) : v = ptrOf o := by
  obtain ⟨o', hv, hd⟩ := ptrElem_num h
  have e : numOf o = numOf o' := by
    injection hd with hd
    injection hd with _ hd
  rw [hv, numOf_inj e]

theorem intKeyed : Keyed Try.prog 3 := Go.Maps.int_keyed Try.underlying3

/-- f, but o at c. -/
def setAt {α : Type} (f : Int → Option α) (c : Int) (o : Option α) : Int → Option α := fun x => if x = c then o else f x
theorem setAt_same {α : Type} (f : Int → Option α) (c : Int) (o : Option α) : setAt f c o c = o := if_pos rfl
theorem setAt_other {α : Type} (f : Int → Option α) (c x : Int) (o : Option α) (h : x ≠ c) : setAt f c o x = f x := if_neg h

/-- Block mb is a map of n entries: the pointer at block f c stands at c. -/
def IsMp (w : World) (mb n : Nat) (f : Int → Option Nat) : Prop :=
  ∃ D : DataW Unit, w.ownsMap Try.prog 3 ptrElem mb n D ∧ Maps.size D = n ∧
    ∀ c : Int, D.atKey (.int .i64 c) (.lit (.int .i64 (-1))) = .lit (.int .i64 (numOf (f c))) ∧ Maps.has D (.int .i64 c) = (f c).isSome

theorem IsMp.lt {w : World} {mb n : Nat} {f : Int → Option Nat} (h : IsMp w mb n f) : mb < w.heap.size := by
  obtain ⟨D, hD, _⟩ := h
  exact hD.lt

theorem IsMp.keep {S : Nat → Prop} {w w' : World} {mb n : Nat} {f : Int → Option Nat} (h : IsMp w mb n f) (hf : Fr S w w') (hS : ¬ S mb) : IsMp w' mb n f := by
  obtain ⟨D, hD, hr⟩ := h
  have hlt := hD.lt
  obtain ⟨es, clock, hb, hrest⟩ := hD
  exact ⟨D, ⟨es, clock, (hf.block mb hlt hS).trans hb, hrest⟩, hr⟩

theorem IsMp.drewN {w : World} {mb n : Nat} {f : Int → Option Nat} (m : Nat) (h : IsMp w mb n f) : IsMp (w.drewN m) mb n f := h

theorem IsMp.made (w : World) : IsMp (w.alloc (.map #[] 0)) w.heap.size 0 (fun _ => none) :=
  ⟨.map [], World.ownsMap_made w _ _ _, rfl, fun _ => ⟨rfl, rfl⟩⟩

theorem zeroPtr (w : World) : (zeroValue 51).run Try.prog w = .ok (.pointer none) w := by kernel_rfl

theorem IsMp.look {w : World} {mb n : Nat} {f : Int → Option Nat} (h : IsMp w mb n f) (c : Int) (hc : (Lit.int .i64 c).wf = true) :
    (Instr.lookup 48 (.map (some mb)) (.int .i64 c) false).run Try.prog w = .ok (ptrOf (f c)) w := by
  obtain ⟨D, hD, _, hf⟩ := h
  obtain ⟨v, ps, hrun, hv⟩ := hD.lookup intKeyed Try.underlying48 (zeroPtr w) (zd := .lit (.int .i64 (-1))) (zp := []) rfl (Go.Maps.keyOf_int_mk Try.underlying3 hc)
  rw [(hf c).1] at hv
  rw [hrun, ptrElem_inv hv]

theorem IsMp.len {w : World} {mb n : Nat} {f : Int → Option Nat} (h : IsMp w mb n f) (ty : TypeId) : (Builtin.len_ #[48] ty #[.map (some mb)]).run Try.prog w = .ok (.int .i64 (n : Int)) w := by
  obtain ⟨D, hD, hn, _⟩ := h
  rw [hD.len Try.underlying48 ty, hn]

/-- A new entry. -/
theorem IsMp.store {w : World} {mb n : Nat} {f : Int → Option Nat} (h : IsMp w mb n f) (c : Int) (hc : (Lit.int .i64 c).wf = true) (hf : f c = none) (hn : n < maxLen) (b : Nat) :
    ∃ w', (Instr.mapUpdate 48 (.map (some mb)) (.int .i64 c) (.pointer (some ⟨b, 0, none⟩))).run Try.prog w = .ok () w' ∧ IsMp w' mb (n + 1) (setAt f c (some b)) ∧ Fr (fun k => k = mb) w w' := by
  obtain ⟨D, hD, hsz, hat⟩ := h
  obtain ⟨w', hrun, hown, hturn⟩ := hD.store intKeyed Try.underlying48 hn (Go.Maps.keyOf_int_mk Try.underlying3 hc) (val := .pointer (some ⟨b, 0, none⟩)) (d := .lit (.int .i64 b)) (ps := []) rfl
  have hmap := hD.isMap
  have hk : WideAt.IsKeyLit (.int .i64 c) := intKeyed.key (Go.Maps.keyOf_int_mk Try.underlying3 hc)
  have hg := hturn.grown
  refine ⟨w', hrun, ⟨_, hown, ?_, fun x => ?_⟩, ⟨hg.os, hg.tape, hg.output, hg.size, fun k hk1 hk2 => hg.block k hk1 (fun e => hk2 (Option.some.inj e))⟩⟩
  · have := Maps.size_put (k := .int .i64 c) (hD.tidy intKeyed) (.lit (.int .i64 b))
    rw [this, (hat c).2, hf, hsz]
    rfl
  · by_cases e : x = c
    · subst e
      rw [setAt_same]
      exact ⟨Maps.atKey_put_same hmap hk _ _, Maps.has_put_same hmap hk _⟩
    · have hne : (Lit.int .i64 x) ≠ .int .i64 c := fun h => e (by cases h; rfl)
      rw [setAt_other _ _ _ _ e, Maps.atKey_put_other hne, Maps.has_put_other hne]
      exact hat x

/-- A new entry, told by the entries. -/
theorem IsMp.storeAt {w : World} {mb n : Nat} {f : Int → Option Nat} (h : IsMp w mb n f) (c : Int) (hc : (Lit.int .i64 c).wf = true) (hf : f c = none) (hn : n < maxLen) :
    ∃ es clock, w.heap[mb]? = some (.map es clock) ∧ ∀ (w' : World) (b : Nat), w'.heap[mb]? = some (.map es clock) → ∃ w'', (Instr.mapUpdate 48 (.map (some mb)) (.int .i64 c) (.pointer (some ⟨b, 0, none⟩))).run Try.prog w' = .ok () w'' ∧
      IsMp w'' mb (n + 1) (setAt f c (some b)) ∧ Fr (fun k => k = mb) w' w'' := by
  obtain ⟨D, ⟨es, clock, hb, hr⟩, hrest⟩ := h
  refine ⟨es, clock, hb, fun w' b hb' => ?_⟩
  have h' : IsMp w' mb n f := ⟨D, ⟨es, clock, hb', hr⟩, hrest⟩
  exact h'.store c hc hf hn b

/-- An entry goes. -/
theorem IsMp.drop {w : World} {mb n : Nat} {f : Int → Option Nat} (h : IsMp w mb n f) (c : Int) (hc : (Lit.int .i64 c).wf = true) (b : Nat) (hf : f c = some b) (ty : TypeId) :
    0 < n ∧ ∃ w', (Builtin.delete_ #[48, 3] ty #[.map (some mb), .int .i64 c]).run Try.prog w = .ok (.tuple #[]) w' ∧ IsMp w' mb (n - 1) (setAt f c none) ∧ Fr (fun k => k = mb) w w' := by
  obtain ⟨D, hD, hsz, hat⟩ := h
  obtain ⟨w', hrun, hown, hturn⟩ := hD.drop intKeyed Try.underlying48 (Go.Maps.keyOf_int_mk Try.underlying3 hc) ty
  have hg := hturn.grown
  have hs := Maps.size_del (k := .int .i64 c) (hD.tidy intKeyed)
  rw [(hat c).2, hf, hsz] at hs
  have hs' : Maps.size (D.del (.int .i64 c)) + 1 = n := by simpa using hs
  refine ⟨by omega, w', hrun, ⟨D.del (.int .i64 c), ?_, ?_, fun x => ?_⟩, ⟨hg.os, hg.tape, hg.output, hg.size, fun k hk1 hk2 => hg.block k hk1 (fun e => hk2 (Option.some.inj e))⟩⟩
  · obtain ⟨es, clock, hb, F, hle, hD'⟩ := hown
    refine ⟨es, clock, hb, F, ?_, hD'⟩
    have e1 : Maps.size (D.del (.int .i64 c)) = es.size := by rw [hD']; simp [Maps.size, length_sorted]
    omega
  · omega
  · by_cases e : x = c
    · subst e
      rw [setAt_same]
      exact ⟨Maps.atKey_del_same _, Maps.has_del_same⟩
    · have hne : (Lit.int .i64 x) ≠ .int .i64 c := fun h => e (by cases h; rfl)
      rw [setAt_other _ _ _ _ e, Maps.atKey_del_other hne, Maps.has_del_other hne]
      exact hat x

/-- A store into the map, at the operation. -/
theorem wpList_store_mp (w : World) {ops : Array Oper} {rest : List Oper} {o : Oper} {a : Act} {Q : Exit → Act → World → Prop}
    (hg : o.guard = none) (m x v : Operand) (hop : o.op = Op.mapUpdate 48 m x v) (mb n : Nat) (f : Int → Option Nat) (hm : a.eval m = .map (some mb)) (h : IsMp w mb n f)
    (c : Int) (hx : a.eval x = .int .i64 c) (hc : (Lit.int .i64 c).wf = true) (hf : f c = none) (hn : n < maxLen) (b : Nat) (hv : a.eval v = .pointer (some ⟨b, 0, none⟩))
    (hK : ∀ w', IsMp w' mb (n + 1) (setAt f c (some b)) → Fr (fun k => k = mb) w w' → wpList Try.prog ops Q rest (a.put o.dst undef) w') :
    wpList Try.prog ops Q (o :: rest) a w := by
  refine wpList_plain hg fun K' hK' => ?_
  obtain ⟨w', hrun, r1, r2⟩ := h.store c hc hf hn b
  unfold Oper.wp
  simp [execOp, hop, hm, hx, hv, hrun, Result.andThen]
  exact hK' _ _ (hK w' r1 r2)

/-- delete, at the operation. -/
theorem wpList_delete_mp (w : World) {ops : Array Oper} {rest : List Oper} {o : Oper} {a : Act} {Q : Exit → Act → World → Prop}
    (hg : o.guard = none) (m x : Operand) (hop : o.op = Op.call { callee := Callee.builtin Builtin.delete, args := #[m, x], argTypes := #[48, 3] }) (mb n : Nat) (f : Int → Option Nat) (hm : a.eval m = .map (some mb)) (h : IsMp w mb n f)
    (c : Int) (hx : a.eval x = .int .i64 c) (hc : (Lit.int .i64 c).wf = true) (b : Nat) (hf : f c = some b)
    (hK : ∀ w', 0 < n → IsMp w' mb (n - 1) (setAt f c none) → Fr (fun k => k = mb) w w' → wpList Try.prog ops Q rest (a.put o.dst (.tuple #[])) w') :
    wpList Try.prog ops Q (o :: rest) a w := by
  refine wpList_plain hg fun K' hK' => ?_
  obtain ⟨hn0, w', hrun, r1, r2⟩ := h.drop c hc b hf o.type
  unfold Oper.wp
  simp [execOp, hop, resolve, invoke, builtin, hm, hx, hrun, Result.andThen]
  exact hK' _ _ (hK w' hn0 r1 r2)

end Go.Proofs.Ytmbnifnhalgdgaa
