/-
  No cell of these rows narrows 'for every input' (looked for: loops, veiled, ifaces, maps, wideKeys, modest, calm, conditions, laid).
  DERIVED. THE GIVEN ROWS OF THIS SEAT. 7 by the template 'for every input the law returns true; each argument reads behind the call as it read before'; 0 by the template 'total and deterministic' (their statements: YtfieodjihaodiaaGreatTotals.lean).
  GIVEN WITH THE SEED: the statements are not yours to turn. If you find one false, say at which input.
  Laid BY PROGRAM, IN A SANDBOX (cutbox-rows.mjs): the forced cells as the released guide's own fill.sh prints them over the translation 745b6deaa4aaa3cb… (all of the seat's roots in one cut). By AI agents, Wed Nov 11 2026. No macro, syntax, notation, axiom, sorry.
-/
import Derived.Test.YtfieodjihaodiaaGreatChecked
import GoSem.Claim
import GoSem.ClaimJoined
import GoSem.ClaimMapViews
import Derived.JoinedTies
import Derived.KernelRfl
namespace Go.Proofs.YtfieodjihaodiaaGreat
/- THE CELL 'sum', in the pinned program and in every row, IS THE sha256 OF THE DUMP (.gsa) THAT YtfieodjihaodiaaGreatProg.lean LOADS. Nothing in Lean hashes anything: it is a label: what it is worth is what the hold of that sum in a sandbox is worth. -/
noncomputable def Tryz.pinned : Pinned := { name := "ytfieodjihaodiaagreat", sum := "745b6deaa4aaa3cbda5c2cc7ee161b5c7987e62738347073e5246d5834136a80", checked := Tryz.checked }
namespace Rows
def none {H : Type} : Left H := { results := [], args := [] }

/-- 'kerbsidelaw16.EvidenceTells': WHATEVER THE INPUT: true; the input reads as it did. -/
def evidenceTellsSpec : ChangeSpec := { name := "evidenceTells", fn := fun _ => fun
  | [d1, d2, d3, d4] => { results := [.lit (.bool true)], args := [d1, d2, d3, d4] }
  | _ => none }
def evidenceTellsRow : OpenClaim := { program := "ytfieodjihaodiaagreat", sum := "745b6deaa4aaa3cbda5c2cc7ee161b5c7987e62738347073e5246d5834136a80", func := "kerbside/kerbsidelaw16.EvidenceTells", spec := "evidenceTells", unfollowed := true, recurses := true, apart := false }
def EvidenceTellsSaid : Prop := evidenceTellsRow.holds Tryz.pinned (OpenSpec.ofChange evidenceTellsSpec)

/-- ITS FALSE NEIGHBOUR: 'it returns false'. Refute it at one input. -/
def evidenceTellsWrong : ChangeSpec := { name := "evidenceTells", fn := fun _ => fun
  | [d1, d2, d3, d4] => { results := [.lit (.bool false)], args := [d1, d2, d3, d4] }
  | _ => none }
def EvidenceTellsWrongFalsely : Prop := evidenceTellsRow.holds Tryz.pinned (OpenSpec.ofChange evidenceTellsWrong)

/-- 'kerbsidelaw16.EvidenceSolves': WHATEVER THE INPUT: true; the input reads as it did. -/
def evidenceSolvesSpec : ChangeSpec := { name := "evidenceSolves", fn := fun _ => fun
  | [d1, d2] => { results := [.lit (.bool true)], args := [d1, d2] }
  | _ => none }
def evidenceSolvesRow : OpenClaim := { program := "ytfieodjihaodiaagreat", sum := "745b6deaa4aaa3cbda5c2cc7ee161b5c7987e62738347073e5246d5834136a80", func := "kerbside/kerbsidelaw16.EvidenceSolves", spec := "evidenceSolves", unfollowed := true, recurses := true, apart := false }
def EvidenceSolvesSaid : Prop := evidenceSolvesRow.holds Tryz.pinned (OpenSpec.ofChange evidenceSolvesSpec)

/-- ITS FALSE NEIGHBOUR: 'it returns false'. Refute it at one input. -/
def evidenceSolvesWrong : ChangeSpec := { name := "evidenceSolves", fn := fun _ => fun
  | [d1, d2] => { results := [.lit (.bool false)], args := [d1, d2] }
  | _ => none }
def EvidenceSolvesWrongFalsely : Prop := evidenceSolvesRow.holds Tryz.pinned (OpenSpec.ofChange evidenceSolvesWrong)

/-- 'kerbsidelaw16.EvidenceBack': WHATEVER THE INPUT: true; the input reads as it did. -/
def evidenceBackSpec : ChangeSpec := { name := "evidenceBack", fn := fun _ => fun
  | [d1, d2, d3] => { results := [.lit (.bool true)], args := [d1, d2, d3] }
  | _ => none }
def evidenceBackRow : OpenClaim := { program := "ytfieodjihaodiaagreat", sum := "745b6deaa4aaa3cbda5c2cc7ee161b5c7987e62738347073e5246d5834136a80", func := "kerbside/kerbsidelaw16.EvidenceBack", spec := "evidenceBack", unfollowed := true, recurses := true, apart := false }
def EvidenceBackSaid : Prop := evidenceBackRow.holds Tryz.pinned (OpenSpec.ofChange evidenceBackSpec)

/-- ITS FALSE NEIGHBOUR: 'it returns false'. Refute it at one input. -/
def evidenceBackWrong : ChangeSpec := { name := "evidenceBack", fn := fun _ => fun
  | [d1, d2, d3] => { results := [.lit (.bool false)], args := [d1, d2, d3] }
  | _ => none }
def EvidenceBackWrongFalsely : Prop := evidenceBackRow.holds Tryz.pinned (OpenSpec.ofChange evidenceBackWrong)

/-- 'kerbsidelaw16.EvidenceOrigins': WHATEVER THE INPUT: true; the input reads as it did. -/
def evidenceOriginsSpec : ChangeSpec := { name := "evidenceOrigins", fn := fun _ => fun
  | [d1, d2] => { results := [.lit (.bool true)], args := [d1, d2] }
  | _ => none }
def evidenceOriginsRow : OpenClaim := { program := "ytfieodjihaodiaagreat", sum := "745b6deaa4aaa3cbda5c2cc7ee161b5c7987e62738347073e5246d5834136a80", func := "kerbside/kerbsidelaw16.EvidenceOrigins", spec := "evidenceOrigins", unfollowed := true, recurses := true, apart := false }
def EvidenceOriginsSaid : Prop := evidenceOriginsRow.holds Tryz.pinned (OpenSpec.ofChange evidenceOriginsSpec)

/-- ITS FALSE NEIGHBOUR: 'it returns false'. Refute it at one input. -/
def evidenceOriginsWrong : ChangeSpec := { name := "evidenceOrigins", fn := fun _ => fun
  | [d1, d2] => { results := [.lit (.bool false)], args := [d1, d2] }
  | _ => none }
def EvidenceOriginsWrongFalsely : Prop := evidenceOriginsRow.holds Tryz.pinned (OpenSpec.ofChange evidenceOriginsWrong)

/-- 'kerbsidelaw16.EvidenceMore': WHATEVER THE INPUT: true; the input reads as it did. -/
def evidenceMoreSpec : ChangeSpec := { name := "evidenceMore", fn := fun _ => fun
  | [d1, d2] => { results := [.lit (.bool true)], args := [d1, d2] }
  | _ => none }
def evidenceMoreRow : OpenClaim := { program := "ytfieodjihaodiaagreat", sum := "745b6deaa4aaa3cbda5c2cc7ee161b5c7987e62738347073e5246d5834136a80", func := "kerbside/kerbsidelaw16.EvidenceMore", spec := "evidenceMore", unfollowed := true, recurses := true, apart := false }
def EvidenceMoreSaid : Prop := evidenceMoreRow.holds Tryz.pinned (OpenSpec.ofChange evidenceMoreSpec)

/-- ITS FALSE NEIGHBOUR: 'it returns false'. Refute it at one input. -/
def evidenceMoreWrong : ChangeSpec := { name := "evidenceMore", fn := fun _ => fun
  | [d1, d2] => { results := [.lit (.bool false)], args := [d1, d2] }
  | _ => none }
def EvidenceMoreWrongFalsely : Prop := evidenceMoreRow.holds Tryz.pinned (OpenSpec.ofChange evidenceMoreWrong)

/-- 'kerbsidelaw16.EvidenceRecalls': WHATEVER THE INPUT: true; the input reads as it did. -/
def evidenceRecallsSpec : ChangeSpec := { name := "evidenceRecalls", fn := fun _ => fun
  | [d1, d2] => { results := [.lit (.bool true)], args := [d1, d2] }
  | _ => none }
def evidenceRecallsRow : OpenClaim := { program := "ytfieodjihaodiaagreat", sum := "745b6deaa4aaa3cbda5c2cc7ee161b5c7987e62738347073e5246d5834136a80", func := "kerbside/kerbsidelaw16.EvidenceRecalls", spec := "evidenceRecalls", unfollowed := true, recurses := true, apart := false }
def EvidenceRecallsSaid : Prop := evidenceRecallsRow.holds Tryz.pinned (OpenSpec.ofChange evidenceRecallsSpec)

/-- ITS FALSE NEIGHBOUR: 'it returns false'. Refute it at one input. -/
def evidenceRecallsWrong : ChangeSpec := { name := "evidenceRecalls", fn := fun _ => fun
  | [d1, d2] => { results := [.lit (.bool false)], args := [d1, d2] }
  | _ => none }
def EvidenceRecallsWrongFalsely : Prop := evidenceRecallsRow.holds Tryz.pinned (OpenSpec.ofChange evidenceRecallsWrong)

/-- 'kerbsidelaw16.EvidenceWeights': WHATEVER THE INPUT: true; the input reads as it did. -/
def evidenceWeightsSpec : ChangeSpec := { name := "evidenceWeights", fn := fun _ => fun
  | [d] => { results := [.lit (.bool true)], args := [d] }
  | _ => none }
def evidenceWeightsRow : OpenClaim := { program := "ytfieodjihaodiaagreat", sum := "745b6deaa4aaa3cbda5c2cc7ee161b5c7987e62738347073e5246d5834136a80", func := "kerbside/kerbsidelaw16.EvidenceWeights", spec := "evidenceWeights", unfollowed := true, recurses := true, apart := false }
def EvidenceWeightsSaid : Prop := evidenceWeightsRow.holds Tryz.pinned (OpenSpec.ofChange evidenceWeightsSpec)

/-- ITS FALSE NEIGHBOUR: 'it returns false'. Refute it at one input. -/
def evidenceWeightsWrong : ChangeSpec := { name := "evidenceWeights", fn := fun _ => fun
  | [d] => { results := [.lit (.bool false)], args := [d] }
  | _ => none }
def EvidenceWeightsWrongFalsely : Prop := evidenceWeightsRow.holds Tryz.pinned (OpenSpec.ofChange evidenceWeightsWrong)

/- THE SECOND FORM. 'bulk': how many values and letters a reading holds, each counted each time it is reached (what is shared counts as often as it is met; a slice's spare places count too). A statement '..UptoSaid' is the law's where the arguments, and the package variables that the reading takes, are together of bulk at most 1048576: NARROWER than '..Said'. Prove '..Said' where nothing that the law and all that it calls make is longer than what came in: it says more and counts as full. Else prove '..UptoSaid'. A law counts once. -/
mutual
def uptoBulk {H : Type} : DataW H → Nat
  | .lit (.string bytes) => bytes.length + 1
  | .lit _ => 1
  | .nil => 1
  | .ptr d => uptoBulk d + 1
  | .slice elems spare => uptoBulkAll elems + uptoBulkAll spare + 1
  | .agg parts => uptoBulkAll parts + 1
  | .iface _ d => uptoBulk d + 1
  | .map entries => uptoBulkEntries entries + 1
  | .held _ => 1
def uptoBulkAll {H : Type} : List (DataW H) → Nat
  | [] => 0
  | d :: r => uptoBulk d + uptoBulkAll r
def uptoBulkEntries {H : Type} : List (Lit × DataW H) → Nat
  | [] => 0
  | x :: r => uptoBulkEntry x + uptoBulkEntries r
def uptoBulkEntry {H : Type} : Lit × DataW H → Nat
  | (.string bytes, d) => bytes.length + uptoBulk d + 1
  | (_, d) => uptoBulk d + 1
 end
def uptoSmall : (H : Type) → List (DataW H) → Bool := fun _ ds => decide (uptoBulkAll ds ≤ 1048576)
def OpenSpec.upto (s : _root_.Go.ChangeSpec) : _root_.Go.OpenSpec := { _root_.Go.OpenSpec.ofChange s with cond := some uptoSmall }

/-- 'kerbsidelaw16.EvidenceTells', WHERE WHAT IT READS IS OF BULK AT MOST 1048576: true; the input reads as it did. -/
def evidenceTellsUptoRow : OpenClaim := { program := "ytfieodjihaodiaagreat", sum := "745b6deaa4aaa3cbda5c2cc7ee161b5c7987e62738347073e5246d5834136a80", func := "kerbside/kerbsidelaw16.EvidenceTells", spec := "evidenceTells", unfollowed := true, recurses := true, apart := false, narrowed := true }
def EvidenceTellsUptoSaid : Prop := evidenceTellsUptoRow.holds Tryz.pinned (OpenSpec.upto evidenceTellsSpec)

/-- 'kerbsidelaw16.EvidenceSolves', WHERE WHAT IT READS IS OF BULK AT MOST 1048576: true; the input reads as it did. -/
def evidenceSolvesUptoRow : OpenClaim := { program := "ytfieodjihaodiaagreat", sum := "745b6deaa4aaa3cbda5c2cc7ee161b5c7987e62738347073e5246d5834136a80", func := "kerbside/kerbsidelaw16.EvidenceSolves", spec := "evidenceSolves", unfollowed := true, recurses := true, apart := false, narrowed := true }
def EvidenceSolvesUptoSaid : Prop := evidenceSolvesUptoRow.holds Tryz.pinned (OpenSpec.upto evidenceSolvesSpec)

/-- 'kerbsidelaw16.EvidenceBack', WHERE WHAT IT READS IS OF BULK AT MOST 1048576: true; the input reads as it did. -/
def evidenceBackUptoRow : OpenClaim := { program := "ytfieodjihaodiaagreat", sum := "745b6deaa4aaa3cbda5c2cc7ee161b5c7987e62738347073e5246d5834136a80", func := "kerbside/kerbsidelaw16.EvidenceBack", spec := "evidenceBack", unfollowed := true, recurses := true, apart := false, narrowed := true }
def EvidenceBackUptoSaid : Prop := evidenceBackUptoRow.holds Tryz.pinned (OpenSpec.upto evidenceBackSpec)

/-- 'kerbsidelaw16.EvidenceOrigins', WHERE WHAT IT READS IS OF BULK AT MOST 1048576: true; the input reads as it did. -/
def evidenceOriginsUptoRow : OpenClaim := { program := "ytfieodjihaodiaagreat", sum := "745b6deaa4aaa3cbda5c2cc7ee161b5c7987e62738347073e5246d5834136a80", func := "kerbside/kerbsidelaw16.EvidenceOrigins", spec := "evidenceOrigins", unfollowed := true, recurses := true, apart := false, narrowed := true }
def EvidenceOriginsUptoSaid : Prop := evidenceOriginsUptoRow.holds Tryz.pinned (OpenSpec.upto evidenceOriginsSpec)

/-- 'kerbsidelaw16.EvidenceMore', WHERE WHAT IT READS IS OF BULK AT MOST 1048576: true; the input reads as it did. -/
def evidenceMoreUptoRow : OpenClaim := { program := "ytfieodjihaodiaagreat", sum := "745b6deaa4aaa3cbda5c2cc7ee161b5c7987e62738347073e5246d5834136a80", func := "kerbside/kerbsidelaw16.EvidenceMore", spec := "evidenceMore", unfollowed := true, recurses := true, apart := false, narrowed := true }
def EvidenceMoreUptoSaid : Prop := evidenceMoreUptoRow.holds Tryz.pinned (OpenSpec.upto evidenceMoreSpec)

/-- 'kerbsidelaw16.EvidenceRecalls', WHERE WHAT IT READS IS OF BULK AT MOST 1048576: true; the input reads as it did. -/
def evidenceRecallsUptoRow : OpenClaim := { program := "ytfieodjihaodiaagreat", sum := "745b6deaa4aaa3cbda5c2cc7ee161b5c7987e62738347073e5246d5834136a80", func := "kerbside/kerbsidelaw16.EvidenceRecalls", spec := "evidenceRecalls", unfollowed := true, recurses := true, apart := false, narrowed := true }
def EvidenceRecallsUptoSaid : Prop := evidenceRecallsUptoRow.holds Tryz.pinned (OpenSpec.upto evidenceRecallsSpec)

/-- 'kerbsidelaw16.EvidenceWeights', WHERE WHAT IT READS IS OF BULK AT MOST 1048576: true; the input reads as it did. -/
def evidenceWeightsUptoRow : OpenClaim := { program := "ytfieodjihaodiaagreat", sum := "745b6deaa4aaa3cbda5c2cc7ee161b5c7987e62738347073e5246d5834136a80", func := "kerbside/kerbsidelaw16.EvidenceWeights", spec := "evidenceWeights", unfollowed := true, recurses := true, apart := false, narrowed := true }
def EvidenceWeightsUptoSaid : Prop := evidenceWeightsUptoRow.holds Tryz.pinned (OpenSpec.upto evidenceWeightsSpec)

end Rows
end Go.Proofs.YtfieodjihaodiaaGreat
