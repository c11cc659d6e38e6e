/- A config that comes in by value is opened to its fields; conditions: none. -/
import Derived.Test.YtobpjejeignacaaMay
import Derived.Lib.SmallJoins
import Derived.ProofKit
import Derived.OpenShut
import Derived.ShutString
import Derived.ChangeOld
namespace Go.Proofs.Ytobpjejeignacaa
open Go.Joins Go.ChangeShapes Go.WideShapes Go.RowKit

section
variable {H : Type} {enc : TypeId × Value → H} {w : World} {base : Nat} {spare : Nat → Bool} {held : Bool}

theorem of_int {n : Nat} {v : Value} {y : DataW H × List MemPlace} (h : DataW.trod enc Try.prog w base spare held n 3 [v] = some y) : ∃ x : Int, v = .int .i64 x := by
  obtain ⟨x, hx, _⟩ := DataW.trod_int Try.underlying3 h
  exact ⟨x, by simpa using hx⟩

theorem of_bool {n : Nat} {v : Value} {y : DataW H × List MemPlace} (h : DataW.trod enc Try.prog w base spare held n 4 [v] = some y) : ∃ x : Bool, v = .bool x := by
  obtain ⟨x, hx, _⟩ := DataW.trod_bool Try.underlying4 h
  exact ⟨x, by simpa using hx⟩

theorem of_string {n : Nat} {v : Value} {y : DataW H × List MemPlace} (h : DataW.trod enc Try.prog w base spare held n 9 [v] = some y) : ∃ x : ByteArray, v = .string x := by
  obtain ⟨x, hx, _⟩ := DataW.trod_string Try.underlying9 h
  exact ⟨x, by simpa using hx⟩

theorem one3 : Try.prog.cellsOf 3 = 1 := by kernel_rfl
theorem one4 : Try.prog.cellsOf 4 = 1 := by kernel_rfl
theorem one9 : Try.prog.cellsOf 9 = 1 := by kernel_rfl
theorem cells23 : Try.prog.cellsOf 23 = 18 := by kernel_rfl

theorem open_cfg {r : Reach} {b0 : Nat} {v : Value} {d : DataW H} {p : List MemPlace} (hv : Value.okWide Try.prog w r b0 23 v) (h : DataW.Trod enc Try.prog w base spare held 23 v d p) : ∃ c : Cfg, v = .agg (cfgCells c) := by
  obtain ⟨cs, rfl, hsz⟩ := okWide_struct Try.underlying23 hv
  obtain ⟨l⟩ := cs
  match l, hsz.trans cells23 with
  | [c0, c1, c2, c3, c4, c5, c6, c7, c8, c9, c10, c11, c12, c13, c14, c15, c16, c17], _ =>
    obtain ⟨fuel, hf⟩ := h
    obtain ⟨xs, n, _, hx, _, hlen, hg⟩ := DataW.trod_struct Try.underlying23 hf
    match xs, hlen with
    | [y0, y1, y2, y3, y4, y5, y6, y7, y8, y9, y10, y11, y12, y13, y14, y15, y16, y17], _ =>
      obtain ⟨x0, rfl⟩ := of_int (by simpa [Value.cells, one3] using hg 0 _ rfl)
      obtain ⟨x1, rfl⟩ := of_int (by simpa [Value.cells, one3] using hg 1 _ rfl)
      obtain ⟨x2, rfl⟩ := of_int (by simpa [Value.cells, one3] using hg 2 _ rfl)
      obtain ⟨x3, rfl⟩ := of_int (by simpa [Value.cells, one3] using hg 3 _ rfl)
      obtain ⟨x4, rfl⟩ := of_int (by simpa [Value.cells, one3] using hg 4 _ rfl)
      obtain ⟨x5, rfl⟩ := of_int (by simpa [Value.cells, one3] using hg 5 _ rfl)
      obtain ⟨x6, rfl⟩ := of_int (by simpa [Value.cells, one3] using hg 6 _ rfl)
      obtain ⟨x7, rfl⟩ := of_int (by simpa [Value.cells, one3] using hg 7 _ rfl)
      obtain ⟨x8, rfl⟩ := of_int (by simpa [Value.cells, one3] using hg 8 _ rfl)
      obtain ⟨x9, rfl⟩ := of_int (by simpa [Value.cells, one3] using hg 9 _ rfl)
      obtain ⟨x10, rfl⟩ := of_int (by simpa [Value.cells, one3] using hg 10 _ rfl)
      obtain ⟨x11, rfl⟩ := of_int (by simpa [Value.cells, one3] using hg 11 _ rfl)
      obtain ⟨x12, rfl⟩ := of_bool (by simpa [Value.cells, one4] using hg 12 _ rfl)
      obtain ⟨x13, rfl⟩ := of_string (by simpa [Value.cells, one9] using hg 13 _ rfl)
      obtain ⟨x14, rfl⟩ := of_string (by simpa [Value.cells, one9] using hg 14 _ rfl)
      obtain ⟨x15, rfl⟩ := of_string (by simpa [Value.cells, one9] using hg 15 _ rfl)
      obtain ⟨x16, rfl⟩ := of_int (by simpa [Value.cells, one3] using hg 16 _ rfl)
      obtain ⟨x17, rfl⟩ := of_int (by simpa [Value.cells, one3] using hg 17 _ rfl)
      exact ⟨⟨x0, x1, x2, x3, x4, x5, x6, x7, x8, x9, x10, x11, x12, x13, x14, x15, x16, x17⟩, rfl⟩
end

end Go.Proofs.Ytobpjejeignacaa
