/-
  No cell of these rows narrows 'for every input' (looked for: loops, veiled, ifaces, maps, wideKeys, modest, calm, conditions, laid).
  DERIVED. THE GIVEN ROWS OF THIS SEAT. 6 by the template 'for every input the law returns true; each argument reads behind the call as it read before'; 0 by the template 'total and deterministic' (their statements: YtomfnfbijgjfeaaTotals.lean).
  GIVEN WITH THE SEED: the statements are not yours to turn. If you find one false, say at which input.
  Laid BY PROGRAM, IN A SANDBOX (cutbox-rows.mjs): the forced cells as the released guide's own fill.sh prints them over the translation 38a40ea34fcd0aae… (all of the seat's roots in one cut). By AI agents, Wed Nov 11 2026. No macro, syntax, notation, axiom, sorry.
-/
import Derived.Test.YtomfnfbijgjfeaaChecked
import GoSem.Claim
import GoSem.ClaimJoined
import GoSem.ClaimMapViews
import Derived.JoinedTies
import Derived.KernelRfl
namespace Go.Proofs.Ytomfnfbijgjfeaa
/- THE CELL 'sum', in the pinned program and in every row, IS THE sha256 OF THE DUMP (.gsa) THAT YtomfnfbijgjfeaaProg.lean LOADS. Nothing in Lean hashes anything: it is a label: what it is worth is what the hold of that sum in a sandbox is worth. -/
noncomputable def Try.pinned : Pinned := { name := "ytomfnfbijgjfeaa", sum := "38a40ea34fcd0aae706daaa677547a1197f33bda30e3d20a6d193ee9bc1bab0f", checked := Try.checked }
namespace Rows
def none {H : Type} : Left H := { results := [], args := [] }

/-- 'kerbsidelaw21.TaintMore': WHATEVER THE INPUT: true; the input reads as it did. -/
def taintMoreSpec : ChangeSpec := { name := "taintMore", fn := fun _ => fun
  | [d1, d2, d3, d4, d5, d6] => { results := [.lit (.bool true)], args := [d1, d2, d3, d4, d5, d6] }
  | _ => none }
def taintMoreRow : OpenClaim := { program := "ytomfnfbijgjfeaa", sum := "38a40ea34fcd0aae706daaa677547a1197f33bda30e3d20a6d193ee9bc1bab0f", func := "kerbside/kerbsidelaw21.TaintMore", spec := "taintMore", unfollowed := true, recurses := true, apart := false }
def TaintMoreSaid : Prop := taintMoreRow.holds Try.pinned (OpenSpec.ofChange taintMoreSpec)

/-- ITS FALSE NEIGHBOUR: 'it returns false'. Refute it at one input. -/
def taintMoreWrong : ChangeSpec := { name := "taintMore", fn := fun _ => fun
  | [d1, d2, d3, d4, d5, d6] => { results := [.lit (.bool false)], args := [d1, d2, d3, d4, d5, d6] }
  | _ => none }
def TaintMoreWrongFalsely : Prop := taintMoreRow.holds Try.pinned (OpenSpec.ofChange taintMoreWrong)

/-- 'kerbsidelaw21.TaintBins': WHATEVER THE INPUT: true; the input reads as it did. -/
def taintBinsSpec : ChangeSpec := { name := "taintBins", fn := fun _ => fun
  | [d1, d2, d3] => { results := [.lit (.bool true)], args := [d1, d2, d3] }
  | _ => none }
def taintBinsRow : OpenClaim := { program := "ytomfnfbijgjfeaa", sum := "38a40ea34fcd0aae706daaa677547a1197f33bda30e3d20a6d193ee9bc1bab0f", func := "kerbside/kerbsidelaw21.TaintBins", spec := "taintBins", unfollowed := true, recurses := true, apart := false }
def TaintBinsSaid : Prop := taintBinsRow.holds Try.pinned (OpenSpec.ofChange taintBinsSpec)

/-- ITS FALSE NEIGHBOUR: 'it returns false'. Refute it at one input. -/
def taintBinsWrong : ChangeSpec := { name := "taintBins", fn := fun _ => fun
  | [d1, d2, d3] => { results := [.lit (.bool false)], args := [d1, d2, d3] }
  | _ => none }
def TaintBinsWrongFalsely : Prop := taintBinsRow.holds Try.pinned (OpenSpec.ofChange taintBinsWrong)

/-- 'kerbsidelaw21.TaintMixes': WHATEVER THE INPUT: true; the input reads as it did. -/
def taintMixesSpec : ChangeSpec := { name := "taintMixes", fn := fun _ => fun
  | [d1, d2, d3, d4, d5] => { results := [.lit (.bool true)], args := [d1, d2, d3, d4, d5] }
  | _ => none }
def taintMixesRow : OpenClaim := { program := "ytomfnfbijgjfeaa", sum := "38a40ea34fcd0aae706daaa677547a1197f33bda30e3d20a6d193ee9bc1bab0f", func := "kerbside/kerbsidelaw21.TaintMixes", spec := "taintMixes", unfollowed := true, recurses := true, apart := false }
def TaintMixesSaid : Prop := taintMixesRow.holds Try.pinned (OpenSpec.ofChange taintMixesSpec)

/-- ITS FALSE NEIGHBOUR: 'it returns false'. Refute it at one input. -/
def taintMixesWrong : ChangeSpec := { name := "taintMixes", fn := fun _ => fun
  | [d1, d2, d3, d4, d5] => { results := [.lit (.bool false)], args := [d1, d2, d3, d4, d5] }
  | _ => none }
def TaintMixesWrongFalsely : Prop := taintMixesRow.holds Try.pinned (OpenSpec.ofChange taintMixesWrong)

/-- 'kerbsidelaw21.TaintHolds': WHATEVER THE INPUT: true; the input reads as it did. -/
def taintHoldsSpec : ChangeSpec := { name := "taintHolds", fn := fun _ => fun
  | [d1, d2, d3] => { results := [.lit (.bool true)], args := [d1, d2, d3] }
  | _ => none }
def taintHoldsRow : OpenClaim := { program := "ytomfnfbijgjfeaa", sum := "38a40ea34fcd0aae706daaa677547a1197f33bda30e3d20a6d193ee9bc1bab0f", func := "kerbside/kerbsidelaw21.TaintHolds", spec := "taintHolds", unfollowed := true, recurses := true, apart := false }
def TaintHoldsSaid : Prop := taintHoldsRow.holds Try.pinned (OpenSpec.ofChange taintHoldsSpec)

/-- ITS FALSE NEIGHBOUR: 'it returns false'. Refute it at one input. -/
def taintHoldsWrong : ChangeSpec := { name := "taintHolds", fn := fun _ => fun
  | [d1, d2, d3] => { results := [.lit (.bool false)], args := [d1, d2, d3] }
  | _ => none }
def TaintHoldsWrongFalsely : Prop := taintHoldsRow.holds Try.pinned (OpenSpec.ofChange taintHoldsWrong)

/-- 'kerbsidelaw21.TaintMass': WHATEVER THE INPUT: true; the input reads as it did. -/
def taintMassSpec : ChangeSpec := { name := "taintMass", fn := fun _ => fun
  | [d1, d2, d3, d4, d5] => { results := [.lit (.bool true)], args := [d1, d2, d3, d4, d5] }
  | _ => none }
def taintMassRow : OpenClaim := { program := "ytomfnfbijgjfeaa", sum := "38a40ea34fcd0aae706daaa677547a1197f33bda30e3d20a6d193ee9bc1bab0f", func := "kerbside/kerbsidelaw21.TaintMass", spec := "taintMass", unfollowed := true, recurses := true, apart := false }
def TaintMassSaid : Prop := taintMassRow.holds Try.pinned (OpenSpec.ofChange taintMassSpec)

/-- ITS FALSE NEIGHBOUR: 'it returns false'. Refute it at one input. -/
def taintMassWrong : ChangeSpec := { name := "taintMass", fn := fun _ => fun
  | [d1, d2, d3, d4, d5] => { results := [.lit (.bool false)], args := [d1, d2, d3, d4, d5] }
  | _ => none }
def TaintMassWrongFalsely : Prop := taintMassRow.holds Try.pinned (OpenSpec.ofChange taintMassWrong)

/-- 'kerbsidelaw24.ReachMass': WHATEVER THE INPUT: true; the input reads as it did. -/
def reachMassSpec : ChangeSpec := { name := "reachMass", fn := fun _ => fun
  | [d1, d2, d3, d4] => { results := [.lit (.bool true)], args := [d1, d2, d3, d4] }
  | _ => none }
def reachMassRow : OpenClaim := { program := "ytomfnfbijgjfeaa", sum := "38a40ea34fcd0aae706daaa677547a1197f33bda30e3d20a6d193ee9bc1bab0f", func := "kerbside/kerbsidelaw24.ReachMass", spec := "reachMass", unfollowed := true, recurses := true, apart := false }
def ReachMassSaid : Prop := reachMassRow.holds Try.pinned (OpenSpec.ofChange reachMassSpec)

/-- ITS FALSE NEIGHBOUR: 'it returns false'. Refute it at one input. -/
def reachMassWrong : ChangeSpec := { name := "reachMass", fn := fun _ => fun
  | [d1, d2, d3, d4] => { results := [.lit (.bool false)], args := [d1, d2, d3, d4] }
  | _ => none }
def ReachMassWrongFalsely : Prop := reachMassRow.holds Try.pinned (OpenSpec.ofChange reachMassWrong)

/- THE SECOND FORM. 'bulk': how many values and letters a reading holds, each counted each time it is reached (what is shared counts as often as it is met; a slice's spare places count too). A statement '..UptoSaid' is the law's where the arguments, and the package variables that the reading takes, are together of bulk at most 1048576: NARROWER than '..Said'. Prove '..Said' where nothing that the law and all that it calls make is longer than what came in: it says more and counts as full. Else prove '..UptoSaid'. A law counts once. -/
mutual
def uptoBulk {H : Type} : DataW H → Nat
  | .lit (.string bytes) => bytes.length + 1
  | .lit _ => 1
  | .nil => 1
  | .ptr d => uptoBulk d + 1
  | .slice elems spare => uptoBulkAll elems + uptoBulkAll spare + 1
  | .agg parts => uptoBulkAll parts + 1
  | .iface _ d => uptoBulk d + 1
  | .map entries => uptoBulkEntries entries + 1
  | .held _ => 1
def uptoBulkAll {H : Type} : List (DataW H) → Nat
  | [] => 0
  | d :: r => uptoBulk d + uptoBulkAll r
def uptoBulkEntries {H : Type} : List (Lit × DataW H) → Nat
  | [] => 0
  | x :: r => uptoBulkEntry x + uptoBulkEntries r
def uptoBulkEntry {H : Type} : Lit × DataW H → Nat
  | (.string bytes, d) => bytes.length + uptoBulk d + 1
  | (_, d) => uptoBulk d + 1
 end
def uptoSmall : (H : Type) → List (DataW H) → Bool := fun _ ds => decide (uptoBulkAll ds ≤ 1048576)
def OpenSpec.upto (s : _root_.Go.ChangeSpec) : _root_.Go.OpenSpec := { _root_.Go.OpenSpec.ofChange s with cond := some uptoSmall }

/-- 'kerbsidelaw21.TaintMore', WHERE WHAT IT READS IS OF BULK AT MOST 1048576: true; the input reads as it did. -/
def taintMoreUptoRow : OpenClaim := { program := "ytomfnfbijgjfeaa", sum := "38a40ea34fcd0aae706daaa677547a1197f33bda30e3d20a6d193ee9bc1bab0f", func := "kerbside/kerbsidelaw21.TaintMore", spec := "taintMore", unfollowed := true, recurses := true, apart := false, narrowed := true }
def TaintMoreUptoSaid : Prop := taintMoreUptoRow.holds Try.pinned (OpenSpec.upto taintMoreSpec)

/-- 'kerbsidelaw21.TaintBins', WHERE WHAT IT READS IS OF BULK AT MOST 1048576: true; the input reads as it did. -/
def taintBinsUptoRow : OpenClaim := { program := "ytomfnfbijgjfeaa", sum := "38a40ea34fcd0aae706daaa677547a1197f33bda30e3d20a6d193ee9bc1bab0f", func := "kerbside/kerbsidelaw21.TaintBins", spec := "taintBins", unfollowed := true, recurses := true, apart := false, narrowed := true }
def TaintBinsUptoSaid : Prop := taintBinsUptoRow.holds Try.pinned (OpenSpec.upto taintBinsSpec)

/-- 'kerbsidelaw21.TaintMixes', WHERE WHAT IT READS IS OF BULK AT MOST 1048576: true; the input reads as it did. -/
def taintMixesUptoRow : OpenClaim := { program := "ytomfnfbijgjfeaa", sum := "38a40ea34fcd0aae706daaa677547a1197f33bda30e3d20a6d193ee9bc1bab0f", func := "kerbside/kerbsidelaw21.TaintMixes", spec := "taintMixes", unfollowed := true, recurses := true, apart := false, narrowed := true }
def TaintMixesUptoSaid : Prop := taintMixesUptoRow.holds Try.pinned (OpenSpec.upto taintMixesSpec)

/-- 'kerbsidelaw21.TaintHolds', WHERE WHAT IT READS IS OF BULK AT MOST 1048576: true; the input reads as it did. -/
def taintHoldsUptoRow : OpenClaim := { program := "ytomfnfbijgjfeaa", sum := "38a40ea34fcd0aae706daaa677547a1197f33bda30e3d20a6d193ee9bc1bab0f", func := "kerbside/kerbsidelaw21.TaintHolds", spec := "taintHolds", unfollowed := true, recurses := true, apart := false, narrowed := true }
def TaintHoldsUptoSaid : Prop := taintHoldsUptoRow.holds Try.pinned (OpenSpec.upto taintHoldsSpec)

/-- 'kerbsidelaw21.TaintMass', WHERE WHAT IT READS IS OF BULK AT MOST 1048576: true; the input reads as it did. -/
def taintMassUptoRow : OpenClaim := { program := "ytomfnfbijgjfeaa", sum := "38a40ea34fcd0aae706daaa677547a1197f33bda30e3d20a6d193ee9bc1bab0f", func := "kerbside/kerbsidelaw21.TaintMass", spec := "taintMass", unfollowed := true, recurses := true, apart := false, narrowed := true }
def TaintMassUptoSaid : Prop := taintMassUptoRow.holds Try.pinned (OpenSpec.upto taintMassSpec)

/-- 'kerbsidelaw24.ReachMass', WHERE WHAT IT READS IS OF BULK AT MOST 1048576: true; the input reads as it did. -/
def reachMassUptoRow : OpenClaim := { program := "ytomfnfbijgjfeaa", sum := "38a40ea34fcd0aae706daaa677547a1197f33bda30e3d20a6d193ee9bc1bab0f", func := "kerbside/kerbsidelaw24.ReachMass", spec := "reachMass", unfollowed := true, recurses := true, apart := false, narrowed := true }
def ReachMassUptoSaid : Prop := reachMassUptoRow.holds Try.pinned (OpenSpec.upto reachMassSpec)

end Rows
end Go.Proofs.Ytomfnfbijgjfeaa
