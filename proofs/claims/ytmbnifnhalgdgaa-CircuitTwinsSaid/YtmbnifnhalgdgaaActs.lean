/- A slice of acts that came in is opened to its cells; conditions: none. -/
import Derived.Test.YtmbnifnhalgdgaaBase
import Derived.ProofKit
import Derived.Deep.Slices
import Derived.Lib.SmallJoins
import Derived.ChangeSame
namespace Go.Proofs.Ytmbnifnhalgdgaa
open Go.ChangeShapes Go.WideShapes Go.RowKit

/-- The acts' cells: five each. -/
def ActsIn (w : World) (a : Option Addr) (len cap : Nat) : Prop :=
  (a = none ∧ len = 0 ∧ cap = 0) ∨
  ∃ x, a = some x ∧ ∀ i, i < len → ∃ (z0 z1 z2 z3 : Int) (s : ByteArray), w.cell? (x.add (i * 5)) = some (.int .i64 z0) ∧ w.cell? (x.add (i * 5 + 1)) = some (.int .i64 z1) ∧ w.cell? (x.add (i * 5 + 2)) = some (.int .i64 z2) ∧
    w.cell? (x.add (i * 5 + 3)) = some (.int .i64 z3) ∧ w.cell? (x.add (i * 5 + 4)) = some (.string s) ∧ (Lit.int .i64 z1).wf = true ∧ (Lit.int .i64 z3).wf = true ∧ s.size ≤ maxLen

section
variable {H : Type} {enc : TypeId × Value → H} {w : World} {base : Nat} {spare : Nat → Bool} {held : Bool}

theorem of_int {n : Nat} {v : Value} {y : DataW H × List MemPlace} (h : DataW.trod enc Try.prog w base spare held n 3 [v] = some y) : ∃ x : Int, v = .int .i64 x ∧ (Lit.int .i64 x).wf = true := by
  obtain ⟨x, hx, _, hw⟩ := DataW.trod_int Try.underlying3 h
  exact ⟨x, by simpa using hx, hw⟩

theorem of_string {n : Nat} {v : Value} {y : DataW H × List MemPlace} (h : DataW.trod enc Try.prog w base spare held n 9 [v] = some y) : ∃ x : ByteArray, v = .string x ∧ x.size ≤ maxLen := by
  obtain ⟨x, hx, _, hw⟩ := DataW.trod_string Try.underlying9 h
  exact ⟨x, by simpa using hx, hw⟩

theorem one3 : Try.prog.cellsOf 3 = 1 := by kernel_rfl
theorem one9 : Try.prog.cellsOf 9 = 1 := by kernel_rfl
theorem cells46 : Try.prog.cellsOf 46 = 5 := by kernel_rfl

theorem open_acts {r : Reach} {b0 : Nat} {v : Value} {d : DataW H} {p : List MemPlace} (hv : Value.okWide Try.prog w r b0 44 v) (h : DataW.Trod enc Try.prog w base spare held 44 v d p) :
    ∃ a len cap, v = .slice a len cap ∧ ActsIn w a len cap := by
  obtain ⟨a, len, cap, rfl⟩ := okWide_slice Try.underlying44 hv
  refine ⟨a, len, cap, rfl, ?_⟩
  obtain ⟨fuel, hf⟩ := h
  rcases Go.Deep.open_slice Try.underlying44 hf with ⟨hcs, _⟩ | ⟨x, l, c, m, n, D, Pl, hcs, _, hl, _, hm, _, hi⟩
  · simp [Value.cells] at hcs
    obtain ⟨rfl, rfl, rfl⟩ := hcs
    exact Or.inl ⟨rfl, rfl, rfl⟩
  · simp [Value.cells] at hcs
    obtain ⟨rfl, rfl, rfl⟩ := hcs
    refine Or.inr ⟨x, rfl, fun i hil => ?_⟩
    obtain ⟨cs', hc, ht⟩ := hi i (by rw [hm]; split <;> omega)
    rw [cells46] at hc
    obtain ⟨ys, n', _, _, hlen, hyl, hfd⟩ := DataW.trod_struct Try.underlying46 ht
    obtain ⟨_, hcl, hat⟩ := World.cells?_some hc
    have hyl' : ys.length = 5 := hyl
    match cs', hcl with
    | [c0, c1, c2, c3, c4], _ =>
      match ys, hyl' with
      | [y0, y1, y2, y3, y4], _ =>
        obtain ⟨z0, rfl, w0⟩ := of_int (by simpa [one3] using hfd 0 _ rfl)
        obtain ⟨z1, rfl, w1⟩ := of_int (by simpa [one3] using hfd 1 _ rfl)
        obtain ⟨z2, rfl, w2⟩ := of_int (by simpa [one3] using hfd 2 _ rfl)
        obtain ⟨z3, rfl, w3⟩ := of_int (by simpa [one3] using hfd 3 _ rfl)
        obtain ⟨s, rfl, hs⟩ := of_string (by simpa [one9] using hfd 4 _ rfl)
        have e : ∀ j, (x.add (i * 5)).add j = x.add (i * 5 + j) := fun j => Go.Deep.add_add _ _ _
        refine ⟨z0, z1, z2, z3, s, ?_, ?_, ?_, ?_, ?_, w1, w3, hs⟩
        · have := hat 0 (by decide); rw [e] at this; exact this
        · have := hat 1 (by decide); rw [e] at this; exact this
        · have := hat 2 (by decide); rw [e] at this; exact this
        · have := hat 3 (by decide); rw [e] at this; exact this
        · have := hat 4 (by decide); rw [e] at this; exact this
end

/-- The cells of one act, in a later world. -/
theorem ActsIn.at {w : World} {a : Option Addr} {len cap : Nat} (h : ActsIn w a len cap) (i : Nat) (hi : i < len) :
    ∃ b o z0 z1 z2 z3 s, a = some ⟨b, o, none⟩ ∧ w.cell? ⟨b, o + i * 5, none⟩ = some (.int .i64 z0) ∧ w.cell? ⟨b, o + i * 5 + 1, none⟩ = some (.int .i64 z1) ∧ w.cell? ⟨b, o + i * 5 + 2, none⟩ = some (.int .i64 z2) ∧
      w.cell? ⟨b, o + i * 5 + 3, none⟩ = some (.int .i64 z3) ∧ w.cell? ⟨b, o + i * 5 + 4, none⟩ = some (.string s) ∧ (Lit.int .i64 z1).wf = true ∧ (Lit.int .i64 z3).wf = true ∧ s.size ≤ maxLen := by
  rcases h with ⟨_, rfl, _⟩ | ⟨x, rfl, hx⟩
  · omega
  · obtain ⟨b, o, spot⟩ := x
    have hsp : spot = none := by
      obtain ⟨z0, z1, z2, z3, s, h0, _⟩ := hx 0 (by omega)
      simpa [Addr.add] using World.cell?_spot h0
    subst hsp
    obtain ⟨z0, z1, z2, z3, s, h0, h1, h2, h3, h4, hw⟩ := hx i hi
    refine ⟨b, o, z0, z1, z2, z3, s, rfl, ?_, ?_, ?_, ?_, ?_, hw⟩
    · rw [← Go.WideShapes.add_plain]; exact h0
    · rw [Nat.add_assoc, ← Go.WideShapes.add_plain]; exact h1
    · rw [Nat.add_assoc, ← Go.WideShapes.add_plain]; exact h2
    · rw [Nat.add_assoc, ← Go.WideShapes.add_plain]; exact h3
    · rw [Nat.add_assoc, ← Go.WideShapes.add_plain]; exact h4

end Go.Proofs.Ytmbnifnhalgdgaa
