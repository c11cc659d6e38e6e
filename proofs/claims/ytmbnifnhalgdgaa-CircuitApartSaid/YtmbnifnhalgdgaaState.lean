/- What a switch is: plain words, and what it holds in memory; conditions: none but those written. -/
import Derived.Test.YtmbnifnhalgdgaaRead
namespace Go.Proofs.Ytmbnifnhalgdgaa
open Go.RowKit

/-- A pipe: its pieces, how many losses are owed. -/
structure Pip where
  ps : List (List UInt8)
  lost : Int

/-- A switch. -/
structure SwS where
  ports : Int
  most : Int
  last : Int
  owed : Int
  n : Nat
  up : Int → Option (Pip × Pip)

def PipOk (most : Int) (p : Pip) : Prop := (p.ps.flatten.length : Int) ≤ most ∧ 0 ≤ p.lost

structure SwS.Ok (S : SwS) : Prop where
  p1 : 1 ≤ S.ports
  p2 : S.ports ≤ 8
  m1 : 1 ≤ S.most
  m2 : S.most ≤ 65536
  l1 : 0 ≤ S.last
  o1 : 0 ≤ S.owed
  o2 : S.owed ≤ 9223372036854775807
  n1 : (S.n : Int) ≤ S.ports
  up : ∀ c q, S.up c = some q → (1 ≤ c ∧ c ≤ S.last) ∧ PipOk S.most q.1 ∧ PipOk S.most q.2

/-- Of nothing more than K. -/
def SwS.Few (S : SwS) (K : Nat) : Prop := S.last ≤ K ∧ ∀ c q, S.up c = some q → (q.1.ps.length ≤ K ∧ q.1.lost ≤ K) ∧ (q.2.ps.length ≤ K ∧ q.2.lost ≤ K)

/-- What a block is there for. -/
inductive Role where
  | sw
  | mp
  | ci (c : Int)
  | ar (c : Int) (s : Nat)
  | da (c : Int) (s : Nat)

abbrev Owner := Nat → Option Role

def IsPcs (w : World) (own : Owner) (c : Int) (s : Nat) (v : Value) (ps : List (List UInt8)) : Prop :=
  ∃ (g : Option Nat) (Q : List Pc), Q.map (·.1) = ps ∧ Holds w g 2 v Q.length (pcs Q) ∧ (∀ k, g = some k → own k = some (.ar c s)) ∧
    ∀ q ∈ Q, own q.2.1 = some (.da c s) ∧ ∀ j (hj : j < q.1.length), w.cell? ⟨q.2.1, j, none⟩ = some (.int .u8 (q.1[j].toNat : Int)) ∧ w.frozen? ⟨q.2.1, j, none⟩ = false

def cCells (v0 v1 : Value) (q : Pip × Pip) : Array Value :=
  #[v0, .int .i64 (q.1.ps.flatten.length : Nat), .int .i64 q.1.lost, v1, .int .i64 (q.2.ps.flatten.length : Nat), .int .i64 q.2.lost]

def IsCirc (w : World) (own : Owner) (c : Int) (b : Nat) (q : Pip × Pip) : Prop :=
  ∃ v0 v1, Blk w b (cCells v0 v1 q) 58 ∧ IsPcs w own c 0 v0 q.1.ps ∧ IsPcs w own c 1 v1 q.2.ps

structure SwAt (w : World) (own : Owner) (sb mb : Nat) (f : Int → Option Nat) (S : SwS) : Prop where
  blk : Blk w sb (swCells S.ports S.most S.last S.owed mb) 50
  map : IsMp w mb S.n f
  osw : own sb = some .sw
  omp : own mb = some .mp
  old : ∀ k r, own k = some r → k < w.heap.size
  ok : S.Ok
  no : ∀ c, S.up c = none → f c = none
  yes : ∀ c q, S.up c = some q → ∃ b, f c = some b ∧ own b = some (.ci c) ∧ IsCirc w own c b q

def IsSw (w : World) (own : Owner) (sb : Nat) (S : SwS) : Prop := ∃ mb f, SwAt w own sb mb f S

/-- More blocks, the elder ones for what they were. -/
structure Grow (own own' : Owner) (B : Nat) : Prop where
  ext : ∀ k r, own k = some r → own' k = some r
  new : ∀ k r, own' k = some r → own k = some r ∨ B ≤ k

theorem Grow.refl (own : Owner) (B : Nat) : Grow own own B := ⟨fun _ _ h => h, fun _ _ h => Or.inl h⟩

theorem IsPcs.keep {T : Nat → Prop} {w w' : World} {own own' : Owner} {c : Int} {s : Nat} {v : Value} {ps : List (List UInt8)} (h : IsPcs w own c s v ps) (hf : Fr T w w') (hx : ∀ k r, own k = some r → own' k = some r)
    (h1 : ∀ k, own k = some (.ar c s) → ¬ T k) (h2 : ∀ k, own k = some (.da c s) → ¬ T k) : IsPcs w' own' c s v ps := by
  obtain ⟨g, Q, hQ, hh, hg, hd⟩ := h
  refine ⟨g, Q, hQ, hh.keep hf (fun k hk => h1 k (hg k hk)), fun k hk => hx _ _ (hg k hk), fun q hq => ?_⟩
  obtain ⟨ho, hc⟩ := hd q hq
  refine ⟨hx _ _ ho, fun j hj => ?_⟩
  obtain ⟨e1, e2⟩ := hc j hj
  have hb := hf.block q.2.1 (World.block_lt_of_cell? w _ e1) (h2 _ ho)
  exact ⟨(World.cell?_of_block (w := w) hb).trans e1, (World.frozen?_of_block (w := w) hb).trans e2⟩

theorem IsCirc.keep {T : Nat → Prop} {w w' : World} {own own' : Owner} {c : Int} {b : Nat} {q : Pip × Pip} (h : IsCirc w own c b q) (hf : Fr T w w') (hx : ∀ k r, own k = some r → own' k = some r)
    (h0 : ¬ T b) (h1 : ∀ s k, own k = some (.ar c s) → ¬ T k) (h2 : ∀ s k, own k = some (.da c s) → ¬ T k) : IsCirc w' own' c b q := by
  obtain ⟨v0, v1, hb, p0, p1⟩ := h
  exact ⟨v0, v1, hb.keep hf h0, p0.keep hf hx (h1 0) (h2 0), p1.keep hf hx (h1 1) (h2 1)⟩

/-- While others write, a switch stays what it is. -/
theorem SwAt.keep {T : Nat → Prop} {w w' : World} {own : Owner} {sb mb : Nat} {f : Int → Option Nat} {S : SwS} (h : SwAt w own sb mb f S) (hf : Fr T w w') (hT : ∀ k r, own k = some r → ¬ T k) : SwAt w' own sb mb f S where
  blk := h.blk.keep hf (hT _ _ h.osw)
  map := h.map.keep hf (hT _ _ h.omp)
  osw := h.osw
  omp := h.omp
  old := fun k r hk => Nat.lt_of_lt_of_le (h.old k r hk) hf.size
  ok := h.ok
  no := h.no
  yes := fun c q hq => by
    obtain ⟨b, e1, e2, e3⟩ := h.yes c q hq
    exact ⟨b, e1, e2, e3.keep hf (fun _ _ h => h) (hT _ _ e2) (fun s k hk => hT _ _ hk) (fun s k hk => hT _ _ hk)⟩

theorem IsSw.keep {T : Nat → Prop} {w w' : World} {own : Owner} {sb : Nat} {S : SwS} (h : IsSw w own sb S) (hf : Fr T w w') (hT : ∀ k r, own k = some r → ¬ T k) : IsSw w' own sb S := by
  obtain ⟨mb, f, h⟩ := h
  exact ⟨mb, f, h.keep hf hT⟩

/-- What is one circuit's. -/
def OfC (c : Int) : Role → Prop
  | .ci x => x = c
  | .ar x _ => x = c
  | .da x _ => x = c
  | _ => False

/-- One circuit's pipes turn. -/
theorem SwAt.change {T : Nat → Prop} {w w' : World} {own own' : Owner} {sb mb : Nat} {f : Int → Option Nat} {S : SwS} (h : SwAt w own sb mb f S) (c : Int) (b : Nat) (hfc : f c = some b) (hf : Fr T w w')
    (hT : ∀ k, T k → ∃ r, own k = some r ∧ OfC c r) (hg : Grow own own' w.heap.size) (hold : ∀ k r, own' k = some r → k < w'.heap.size) (q' : Pip × Pip) (hb : own b = some (.ci c)) (hc : IsCirc w' own' c b q')
    (hok : ({ S with up := setAt S.up c (some q') } : SwS).Ok) (hup : S.up c ≠ none) : SwAt w' own' sb mb f { S with up := setAt S.up c (some q') } where
  blk := h.blk.keep hf (fun ht => by obtain ⟨r, hr, hc⟩ := hT _ ht; rw [h.osw] at hr; cases hr; exact hc)
  map := h.map.keep hf (fun ht => by obtain ⟨r, hr, hc⟩ := hT _ ht; rw [h.omp] at hr; cases hr; exact hc)
  osw := hg.ext _ _ h.osw
  omp := hg.ext _ _ h.omp
  old := hold
  ok := hok
  no := fun x hx => by
    by_cases e : x = c
    · subst e
      have : setAt S.up x (some q') x = none := hx
      rw [setAt_same] at this; cases this
    · have : setAt S.up c (some q') x = none := hx
      rw [setAt_other _ _ _ _ e] at this
      exact h.no x this
  yes := fun x q hq => by
    by_cases e : x = c
    · subst e
      have : setAt S.up x (some q') x = some q := hq
      rw [setAt_same] at this; cases this
      exact ⟨b, hfc, hg.ext _ _ hb, hc⟩
    · have : setAt S.up c (some q') x = some q := hq
      rw [setAt_other _ _ _ _ e] at this
      obtain ⟨b', e1, e2, e3⟩ := h.yes x q this
      refine ⟨b', e1, hg.ext _ _ e2, e3.keep hf hg.ext (fun ht => ?_) (fun s k hk ht => ?_) (fun s k hk ht => ?_)⟩
      · obtain ⟨r, hr, hc⟩ := hT _ ht; rw [e2] at hr; cases hr; exact e hc
      · obtain ⟨r, hr, hc⟩ := hT _ ht; rw [hk] at hr; cases hr; exact e hc
      · obtain ⟨r, hr, hc⟩ := hT _ ht; rw [hk] at hr; cases hr; exact e hc

/-- What a call on a switch leaves. -/
def Post (own : Owner) (w : World) (sb : Nat) (S : SwS) (w' : World) : Prop :=
  ∃ own', IsSw w' own' sb S ∧ Grow own own' w.heap.size ∧ Fr (fun k => ∃ r, own k = some r) w w'

theorem Post.same {own : Owner} {w w' : World} {sb : Nat} {S : SwS} (h : IsSw w own sb S) (hf : Fr (fun _ => False) w w') : Post own w sb S w' :=
  ⟨own, h.keep hf (fun _ _ _ h => h), Grow.refl _ _, hf.mono (fun _ _ h => h.elim)⟩

instance (n : Int) : Decidable (Side n) := inferInstanceAs (Decidable (n = 0 ∨ n = 1))

def newS (p m : Int) : SwS := ⟨p, m, 0, 0, 0, fun _ => none⟩

def dialS (S : SwS) (x y : Int) : (Int × Int) × SwS :=
  if ¬ Side x ∨ y ≠ 1 - x then ((0, 2500), S)
  else if S.ports ≤ S.n then ((0, 2501), S)
  else if 0 < S.owed then ((0, 2503), { S with owed := S.owed - 1 })
  else ((S.last + 1, 0), { S with last := S.last + 1, n := S.n + 1, up := setAt S.up (S.last + 1) (some (⟨[], 0⟩, ⟨[], 0⟩)) })

def hangS (S : SwS) (c : Int) : Int × SwS :=
  match S.up c with
  | none => (2502, S)
  | some _ => (0, { S with n := S.n - 1, up := setAt S.up c none })

def getPip (q : Pip × Pip) (x : Int) : Pip := if x = 0 then q.1 else q.2
def setPip (q : Pip × Pip) (x : Int) (p : Pip) : Pip × Pip := if x = 0 then (p, q.2) else (q.1, p)

end Go.Proofs.Ytmbnifnhalgdgaa
