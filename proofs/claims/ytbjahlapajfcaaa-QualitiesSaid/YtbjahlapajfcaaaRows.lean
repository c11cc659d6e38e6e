/-
  No cell of these rows narrows 'for every input' (looked for: loops, veiled, ifaces, maps, wideKeys, modest, calm, conditions, laid).
  DERIVED. THE GIVEN ROWS OF THIS SEAT. 6 by the template 'for every input the law returns true; each argument reads behind the call as it read before'; 0 by the template 'total and deterministic' (their statements: YtbjahlapajfcaaaTotals.lean).
  GIVEN WITH THE SEED: the statements are not yours to turn. If you find one false, say at which input.
  Laid BY PROGRAM, IN A SANDBOX (cutbox-rows.mjs): the forced cells as the released guide's own fill.sh prints them over the translation a0dba825a9d6da54… (all of the seat's roots in one cut). By AI agents, Wed Nov 11 2026. No macro, syntax, notation, axiom, sorry.
-/
import Derived.Test.YtbjahlapajfcaaaChecked
import GoSem.Claim
import GoSem.ClaimJoined
import GoSem.ClaimMapViews
import Derived.JoinedTies
import Derived.KernelRfl
namespace Go.Proofs.Ytbjahlapajfcaaa
/- THE CELL 'sum', in the pinned program and in every row, IS THE sha256 OF THE DUMP (.gsa) THAT YtbjahlapajfcaaaProg.lean LOADS. Nothing in Lean hashes anything: it is a label: what it is worth is what the hold of that sum in a sandbox is worth. -/
noncomputable def Try.pinned : Pinned := { name := "ytbjahlapajfcaaa", sum := "a0dba825a9d6da549936d885281f489e4b3a35de11d682bce579aa7c65a3ec5f", checked := Try.checked }
namespace Rows
def none {H : Type} : Left H := { results := [], args := [] }

/-- 'withylaw17.Qualities': WHATEVER THE INPUT: true; the input reads as it did. -/
def qualitiesSpec : ChangeSpec := { name := "qualities", fn := fun _ => fun
  | [d1, d2, d3, d4, d5] => { results := [.lit (.bool true)], args := [d1, d2, d3, d4, d5] }
  | _ => none }
def qualitiesRow : OpenClaim := { program := "ytbjahlapajfcaaa", sum := "a0dba825a9d6da549936d885281f489e4b3a35de11d682bce579aa7c65a3ec5f", func := "withy/withylaw17.Qualities", spec := "qualities", apart := false }
def QualitiesSaid : Prop := qualitiesRow.holds Try.pinned (OpenSpec.ofChange qualitiesSpec)

/-- ITS FALSE NEIGHBOUR: 'it returns false'. Refute it at one input. -/
def qualitiesWrong : ChangeSpec := { name := "qualities", fn := fun _ => fun
  | [d1, d2, d3, d4, d5] => { results := [.lit (.bool false)], args := [d1, d2, d3, d4, d5] }
  | _ => none }
def QualitiesWrongFalsely : Prop := qualitiesRow.holds Try.pinned (OpenSpec.ofChange qualitiesWrong)

/-- 'withylaw17.QualityEnds': WHATEVER THE INPUT: true; the input reads as it did. -/
def qualityEndsSpec : ChangeSpec := { name := "qualityEnds", fn := fun _ => fun
  | [d1, d2, d3] => { results := [.lit (.bool true)], args := [d1, d2, d3] }
  | _ => none }
def qualityEndsRow : OpenClaim := { program := "ytbjahlapajfcaaa", sum := "a0dba825a9d6da549936d885281f489e4b3a35de11d682bce579aa7c65a3ec5f", func := "withy/withylaw17.QualityEnds", spec := "qualityEnds", apart := false }
def QualityEndsSaid : Prop := qualityEndsRow.holds Try.pinned (OpenSpec.ofChange qualityEndsSpec)

/-- ITS FALSE NEIGHBOUR: 'it returns false'. Refute it at one input. -/
def qualityEndsWrong : ChangeSpec := { name := "qualityEnds", fn := fun _ => fun
  | [d1, d2, d3] => { results := [.lit (.bool false)], args := [d1, d2, d3] }
  | _ => none }
def QualityEndsWrongFalsely : Prop := qualityEndsRow.holds Try.pinned (OpenSpec.ofChange qualityEndsWrong)

/-- 'withylaw17.QualityRing': WHATEVER THE INPUT: true; the input reads as it did. -/
def qualityRingSpec : ChangeSpec := { name := "qualityRing", fn := fun _ => fun
  | [d1, d2, d3, d4] => { results := [.lit (.bool true)], args := [d1, d2, d3, d4] }
  | _ => none }
def qualityRingRow : OpenClaim := { program := "ytbjahlapajfcaaa", sum := "a0dba825a9d6da549936d885281f489e4b3a35de11d682bce579aa7c65a3ec5f", func := "withy/withylaw17.QualityRing", spec := "qualityRing", apart := false }
def QualityRingSaid : Prop := qualityRingRow.holds Try.pinned (OpenSpec.ofChange qualityRingSpec)

/-- ITS FALSE NEIGHBOUR: 'it returns false'. Refute it at one input. -/
def qualityRingWrong : ChangeSpec := { name := "qualityRing", fn := fun _ => fun
  | [d1, d2, d3, d4] => { results := [.lit (.bool false)], args := [d1, d2, d3, d4] }
  | _ => none }
def QualityRingWrongFalsely : Prop := qualityRingRow.holds Try.pinned (OpenSpec.ofChange qualityRingWrong)

/-- 'withylaw17.QualityForms': WHATEVER THE INPUT: true; the input reads as it did. -/
def qualityFormsSpec : ChangeSpec := { name := "qualityForms", fn := fun _ => fun
  | [d1, d2, d3, d4, d5] => { results := [.lit (.bool true)], args := [d1, d2, d3, d4, d5] }
  | _ => none }
def qualityFormsRow : OpenClaim := { program := "ytbjahlapajfcaaa", sum := "a0dba825a9d6da549936d885281f489e4b3a35de11d682bce579aa7c65a3ec5f", func := "withy/withylaw17.QualityForms", spec := "qualityForms", apart := false }
def QualityFormsSaid : Prop := qualityFormsRow.holds Try.pinned (OpenSpec.ofChange qualityFormsSpec)

/-- ITS FALSE NEIGHBOUR: 'it returns false'. Refute it at one input. -/
def qualityFormsWrong : ChangeSpec := { name := "qualityForms", fn := fun _ => fun
  | [d1, d2, d3, d4, d5] => { results := [.lit (.bool false)], args := [d1, d2, d3, d4, d5] }
  | _ => none }
def QualityFormsWrongFalsely : Prop := qualityFormsRow.holds Try.pinned (OpenSpec.ofChange qualityFormsWrong)

/-- 'withylaw17.QualityMore': WHATEVER THE INPUT: true; the input reads as it did. -/
def qualityMoreSpec : ChangeSpec := { name := "qualityMore", fn := fun _ => fun
  | [d1, d2, d3, d4] => { results := [.lit (.bool true)], args := [d1, d2, d3, d4] }
  | _ => none }
def qualityMoreRow : OpenClaim := { program := "ytbjahlapajfcaaa", sum := "a0dba825a9d6da549936d885281f489e4b3a35de11d682bce579aa7c65a3ec5f", func := "withy/withylaw17.QualityMore", spec := "qualityMore", apart := false }
def QualityMoreSaid : Prop := qualityMoreRow.holds Try.pinned (OpenSpec.ofChange qualityMoreSpec)

/-- ITS FALSE NEIGHBOUR: 'it returns false'. Refute it at one input. -/
def qualityMoreWrong : ChangeSpec := { name := "qualityMore", fn := fun _ => fun
  | [d1, d2, d3, d4] => { results := [.lit (.bool false)], args := [d1, d2, d3, d4] }
  | _ => none }
def QualityMoreWrongFalsely : Prop := qualityMoreRow.holds Try.pinned (OpenSpec.ofChange qualityMoreWrong)

/-- 'withylaw17.QualityTwins': WHATEVER THE INPUT: true; the input reads as it did. -/
def qualityTwinsSpec : ChangeSpec := { name := "qualityTwins", fn := fun _ => fun
  | [d1, d2, d3, d4] => { results := [.lit (.bool true)], args := [d1, d2, d3, d4] }
  | _ => none }
def qualityTwinsRow : OpenClaim := { program := "ytbjahlapajfcaaa", sum := "a0dba825a9d6da549936d885281f489e4b3a35de11d682bce579aa7c65a3ec5f", func := "withy/withylaw17.QualityTwins", spec := "qualityTwins", apart := false }
def QualityTwinsSaid : Prop := qualityTwinsRow.holds Try.pinned (OpenSpec.ofChange qualityTwinsSpec)

/-- ITS FALSE NEIGHBOUR: 'it returns false'. Refute it at one input. -/
def qualityTwinsWrong : ChangeSpec := { name := "qualityTwins", fn := fun _ => fun
  | [d1, d2, d3, d4] => { results := [.lit (.bool false)], args := [d1, d2, d3, d4] }
  | _ => none }
def QualityTwinsWrongFalsely : Prop := qualityTwinsRow.holds Try.pinned (OpenSpec.ofChange qualityTwinsWrong)

/- THE SECOND FORM. 'bulk': how many values and letters a reading holds, each counted each time it is reached (what is shared counts as often as it is met; a slice's spare places count too). A statement '..UptoSaid' is the law's where the arguments, and the package variables that the reading takes, are together of bulk at most 1048576: NARROWER than '..Said'. Prove '..Said' where nothing that the law and all that it calls make is longer than what came in: it says more and counts as full. Else prove '..UptoSaid'. A law counts once. -/
mutual
def uptoBulk {H : Type} : DataW H → Nat
  | .lit (.string bytes) => bytes.length + 1
  | .lit _ => 1
  | .nil => 1
  | .ptr d => uptoBulk d + 1
  | .slice elems spare => uptoBulkAll elems + uptoBulkAll spare + 1
  | .agg parts => uptoBulkAll parts + 1
  | .iface _ d => uptoBulk d + 1
  | .map entries => uptoBulkEntries entries + 1
  | .held _ => 1
def uptoBulkAll {H : Type} : List (DataW H) → Nat
  | [] => 0
  | d :: r => uptoBulk d + uptoBulkAll r
def uptoBulkEntries {H : Type} : List (Lit × DataW H) → Nat
  | [] => 0
  | x :: r => uptoBulkEntry x + uptoBulkEntries r
def uptoBulkEntry {H : Type} : Lit × DataW H → Nat
  | (.string bytes, d) => bytes.length + uptoBulk d + 1
  | (_, d) => uptoBulk d + 1
 end
def uptoSmall : (H : Type) → List (DataW H) → Bool := fun _ ds => decide (uptoBulkAll ds ≤ 1048576)
def OpenSpec.upto (s : _root_.Go.ChangeSpec) : _root_.Go.OpenSpec := { _root_.Go.OpenSpec.ofChange s with cond := some uptoSmall }

/-- 'withylaw17.Qualities', WHERE WHAT IT READS IS OF BULK AT MOST 1048576: true; the input reads as it did. -/
def qualitiesUptoRow : OpenClaim := { program := "ytbjahlapajfcaaa", sum := "a0dba825a9d6da549936d885281f489e4b3a35de11d682bce579aa7c65a3ec5f", func := "withy/withylaw17.Qualities", spec := "qualities", apart := false, narrowed := true }
def QualitiesUptoSaid : Prop := qualitiesUptoRow.holds Try.pinned (OpenSpec.upto qualitiesSpec)

/-- 'withylaw17.QualityEnds', WHERE WHAT IT READS IS OF BULK AT MOST 1048576: true; the input reads as it did. -/
def qualityEndsUptoRow : OpenClaim := { program := "ytbjahlapajfcaaa", sum := "a0dba825a9d6da549936d885281f489e4b3a35de11d682bce579aa7c65a3ec5f", func := "withy/withylaw17.QualityEnds", spec := "qualityEnds", apart := false, narrowed := true }
def QualityEndsUptoSaid : Prop := qualityEndsUptoRow.holds Try.pinned (OpenSpec.upto qualityEndsSpec)

/-- 'withylaw17.QualityRing', WHERE WHAT IT READS IS OF BULK AT MOST 1048576: true; the input reads as it did. -/
def qualityRingUptoRow : OpenClaim := { program := "ytbjahlapajfcaaa", sum := "a0dba825a9d6da549936d885281f489e4b3a35de11d682bce579aa7c65a3ec5f", func := "withy/withylaw17.QualityRing", spec := "qualityRing", apart := false, narrowed := true }
def QualityRingUptoSaid : Prop := qualityRingUptoRow.holds Try.pinned (OpenSpec.upto qualityRingSpec)

/-- 'withylaw17.QualityForms', WHERE WHAT IT READS IS OF BULK AT MOST 1048576: true; the input reads as it did. -/
def qualityFormsUptoRow : OpenClaim := { program := "ytbjahlapajfcaaa", sum := "a0dba825a9d6da549936d885281f489e4b3a35de11d682bce579aa7c65a3ec5f", func := "withy/withylaw17.QualityForms", spec := "qualityForms", apart := false, narrowed := true }
def QualityFormsUptoSaid : Prop := qualityFormsUptoRow.holds Try.pinned (OpenSpec.upto qualityFormsSpec)

/-- 'withylaw17.QualityMore', WHERE WHAT IT READS IS OF BULK AT MOST 1048576: true; the input reads as it did. -/
def qualityMoreUptoRow : OpenClaim := { program := "ytbjahlapajfcaaa", sum := "a0dba825a9d6da549936d885281f489e4b3a35de11d682bce579aa7c65a3ec5f", func := "withy/withylaw17.QualityMore", spec := "qualityMore", apart := false, narrowed := true }
def QualityMoreUptoSaid : Prop := qualityMoreUptoRow.holds Try.pinned (OpenSpec.upto qualityMoreSpec)

/-- 'withylaw17.QualityTwins', WHERE WHAT IT READS IS OF BULK AT MOST 1048576: true; the input reads as it did. -/
def qualityTwinsUptoRow : OpenClaim := { program := "ytbjahlapajfcaaa", sum := "a0dba825a9d6da549936d885281f489e4b3a35de11d682bce579aa7c65a3ec5f", func := "withy/withylaw17.QualityTwins", spec := "qualityTwins", apart := false, narrowed := true }
def QualityTwinsUptoSaid : Prop := qualityTwinsUptoRow.holds Try.pinned (OpenSpec.upto qualityTwinsSpec)

end Rows
end Go.Proofs.Ytbjahlapajfcaaa
