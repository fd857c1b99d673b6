/-
  No cell of these rows narrows 'for every input' (looked for: loops, veiled, ifaces, maps, wideKeys, modest, calm, conditions, laid).
  DERIVED. THE GIVEN ROWS OF THIS SEAT. 10 by the template 'for every input the law returns true; each argument reads behind the call as it read before'; 0 by the template 'total and deterministic' (their statements: YtikokmdpigploaaGreatTotals.lean).
  GIVEN WITH THE SEED: the statements are not yours to turn. If you find one false, say at which input.
  Laid BY PROGRAM, IN A SANDBOX (cutbox-rows.mjs): the forced cells as the released guide's own fill.sh prints them over the translation 87de06423b270da1… (all of the seat's roots in one cut). By AI agents, Wed Nov 11 2026. No macro, syntax, notation, axiom, sorry.
-/
import Derived.Test.YtikokmdpigploaaGreatChecked
import GoSem.Claim
import GoSem.ClaimJoined
import GoSem.ClaimMapViews
import Derived.JoinedTies
import Derived.KernelRfl
namespace Go.Proofs.YtikokmdpigploaaGreat
/- THE CELL 'sum', in the pinned program and in every row, IS THE sha256 OF THE DUMP (.gsa) THAT YtikokmdpigploaaGreatProg.lean LOADS. Nothing in Lean hashes anything: it is a label: what it is worth is what the hold of that sum in a sandbox is worth. -/
noncomputable def Tryz.pinned : Pinned := { name := "ytikokmdpigploaagreat", sum := "87de06423b270da1e073fd35b7fb564d3dac36aa62a28e7659f866df51f747cf", checked := Tryz.checked }
namespace Rows
def none {H : Type} : Left H := { results := [], args := [] }

/-- 'kerbsidelaw23.ExplainTells': WHATEVER THE INPUT: true; the input reads as it did. -/
def explainTellsSpec : ChangeSpec := { name := "explainTells", fn := fun _ => fun
  | [d1, d2, d3] => { results := [.lit (.bool true)], args := [d1, d2, d3] }
  | _ => none }
def explainTellsRow : OpenClaim := { program := "ytikokmdpigploaagreat", sum := "87de06423b270da1e073fd35b7fb564d3dac36aa62a28e7659f866df51f747cf", func := "kerbside/kerbsidelaw23.ExplainTells", spec := "explainTells", unfollowed := true, recurses := true, apart := false }
def ExplainTellsSaid : Prop := explainTellsRow.holds Tryz.pinned (OpenSpec.ofChange explainTellsSpec)

/-- ITS FALSE NEIGHBOUR: 'it returns false'. Refute it at one input. -/
def explainTellsWrong : ChangeSpec := { name := "explainTells", fn := fun _ => fun
  | [d1, d2, d3] => { results := [.lit (.bool false)], args := [d1, d2, d3] }
  | _ => none }
def ExplainTellsWrongFalsely : Prop := explainTellsRow.holds Tryz.pinned (OpenSpec.ofChange explainTellsWrong)

/-- 'kerbsidelaw23.ExplainGrows': WHATEVER THE INPUT: true; the input reads as it did. -/
def explainGrowsSpec : ChangeSpec := { name := "explainGrows", fn := fun _ => fun
  | [d1, d2, d3, d4, d5, d6, d7] => { results := [.lit (.bool true)], args := [d1, d2, d3, d4, d5, d6, d7] }
  | _ => none }
def explainGrowsRow : OpenClaim := { program := "ytikokmdpigploaagreat", sum := "87de06423b270da1e073fd35b7fb564d3dac36aa62a28e7659f866df51f747cf", func := "kerbside/kerbsidelaw23.ExplainGrows", spec := "explainGrows", unfollowed := true, recurses := true, apart := false }
def ExplainGrowsSaid : Prop := explainGrowsRow.holds Tryz.pinned (OpenSpec.ofChange explainGrowsSpec)

/-- ITS FALSE NEIGHBOUR: 'it returns false'. Refute it at one input. -/
def explainGrowsWrong : ChangeSpec := { name := "explainGrows", fn := fun _ => fun
  | [d1, d2, d3, d4, d5, d6, d7] => { results := [.lit (.bool false)], args := [d1, d2, d3, d4, d5, d6, d7] }
  | _ => none }
def ExplainGrowsWrongFalsely : Prop := explainGrowsRow.holds Tryz.pinned (OpenSpec.ofChange explainGrowsWrong)

/-- 'kerbsidelaw23.ExplainFewest': WHATEVER THE INPUT: true; the input reads as it did. -/
def explainFewestSpec : ChangeSpec := { name := "explainFewest", fn := fun _ => fun
  | [d1, d2] => { results := [.lit (.bool true)], args := [d1, d2] }
  | _ => none }
def explainFewestRow : OpenClaim := { program := "ytikokmdpigploaagreat", sum := "87de06423b270da1e073fd35b7fb564d3dac36aa62a28e7659f866df51f747cf", func := "kerbside/kerbsidelaw23.ExplainFewest", spec := "explainFewest", unfollowed := true, recurses := true, apart := false }
def ExplainFewestSaid : Prop := explainFewestRow.holds Tryz.pinned (OpenSpec.ofChange explainFewestSpec)

/-- ITS FALSE NEIGHBOUR: 'it returns false'. Refute it at one input. -/
def explainFewestWrong : ChangeSpec := { name := "explainFewest", fn := fun _ => fun
  | [d1, d2] => { results := [.lit (.bool false)], args := [d1, d2] }
  | _ => none }
def ExplainFewestWrongFalsely : Prop := explainFewestRow.holds Tryz.pinned (OpenSpec.ofChange explainFewestWrong)

/-- 'kerbsidelaw22.SourceTells': WHATEVER THE INPUT: true; the input reads as it did. -/
def sourceTellsSpec : ChangeSpec := { name := "sourceTells", fn := fun _ => fun
  | [d1, d2, d3, d4] => { results := [.lit (.bool true)], args := [d1, d2, d3, d4] }
  | _ => none }
def sourceTellsRow : OpenClaim := { program := "ytikokmdpigploaagreat", sum := "87de06423b270da1e073fd35b7fb564d3dac36aa62a28e7659f866df51f747cf", func := "kerbside/kerbsidelaw22.SourceTells", spec := "sourceTells", unfollowed := true, recurses := true, apart := false }
def SourceTellsSaid : Prop := sourceTellsRow.holds Tryz.pinned (OpenSpec.ofChange sourceTellsSpec)

/-- ITS FALSE NEIGHBOUR: 'it returns false'. Refute it at one input. -/
def sourceTellsWrong : ChangeSpec := { name := "sourceTells", fn := fun _ => fun
  | [d1, d2, d3, d4] => { results := [.lit (.bool false)], args := [d1, d2, d3, d4] }
  | _ => none }
def SourceTellsWrongFalsely : Prop := sourceTellsRow.holds Tryz.pinned (OpenSpec.ofChange sourceTellsWrong)

/-- 'kerbsidelaw26.ProbeTells': WHATEVER THE INPUT: true; the input reads as it did. -/
def probeTellsSpec : ChangeSpec := { name := "probeTells", fn := fun _ => fun
  | [d1, d2, d3, d4] => { results := [.lit (.bool true)], args := [d1, d2, d3, d4] }
  | _ => none }
def probeTellsRow : OpenClaim := { program := "ytikokmdpigploaagreat", sum := "87de06423b270da1e073fd35b7fb564d3dac36aa62a28e7659f866df51f747cf", func := "kerbside/kerbsidelaw26.ProbeTells", spec := "probeTells", unfollowed := true, recurses := true, apart := false }
def ProbeTellsSaid : Prop := probeTellsRow.holds Tryz.pinned (OpenSpec.ofChange probeTellsSpec)

/-- ITS FALSE NEIGHBOUR: 'it returns false'. Refute it at one input. -/
def probeTellsWrong : ChangeSpec := { name := "probeTells", fn := fun _ => fun
  | [d1, d2, d3, d4] => { results := [.lit (.bool false)], args := [d1, d2, d3, d4] }
  | _ => none }
def ProbeTellsWrongFalsely : Prop := probeTellsRow.holds Tryz.pinned (OpenSpec.ofChange probeTellsWrong)

/-- 'kerbsidelaw26.ProbeBest': WHATEVER THE INPUT: true; the input reads as it did. -/
def probeBestSpec : ChangeSpec := { name := "probeBest", fn := fun _ => fun
  | [d1, d2, d3] => { results := [.lit (.bool true)], args := [d1, d2, d3] }
  | _ => none }
def probeBestRow : OpenClaim := { program := "ytikokmdpigploaagreat", sum := "87de06423b270da1e073fd35b7fb564d3dac36aa62a28e7659f866df51f747cf", func := "kerbside/kerbsidelaw26.ProbeBest", spec := "probeBest", unfollowed := true, recurses := true, apart := false }
def ProbeBestSaid : Prop := probeBestRow.holds Tryz.pinned (OpenSpec.ofChange probeBestSpec)

/-- ITS FALSE NEIGHBOUR: 'it returns false'. Refute it at one input. -/
def probeBestWrong : ChangeSpec := { name := "probeBest", fn := fun _ => fun
  | [d1, d2, d3] => { results := [.lit (.bool false)], args := [d1, d2, d3] }
  | _ => none }
def ProbeBestWrongFalsely : Prop := probeBestRow.holds Tryz.pinned (OpenSpec.ofChange probeBestWrong)

/-- 'kerbsidelaw25.QuarantineTells': WHATEVER THE INPUT: true; the input reads as it did. -/
def quarantineTellsSpec : ChangeSpec := { name := "quarantineTells", fn := fun _ => fun
  | [d1, d2, d3] => { results := [.lit (.bool true)], args := [d1, d2, d3] }
  | _ => none }
def quarantineTellsRow : OpenClaim := { program := "ytikokmdpigploaagreat", sum := "87de06423b270da1e073fd35b7fb564d3dac36aa62a28e7659f866df51f747cf", func := "kerbside/kerbsidelaw25.QuarantineTells", spec := "quarantineTells", unfollowed := true, recurses := true, apart := false }
def QuarantineTellsSaid : Prop := quarantineTellsRow.holds Tryz.pinned (OpenSpec.ofChange quarantineTellsSpec)

/-- ITS FALSE NEIGHBOUR: 'it returns false'. Refute it at one input. -/
def quarantineTellsWrong : ChangeSpec := { name := "quarantineTells", fn := fun _ => fun
  | [d1, d2, d3] => { results := [.lit (.bool false)], args := [d1, d2, d3] }
  | _ => none }
def QuarantineTellsWrongFalsely : Prop := quarantineTellsRow.holds Tryz.pinned (OpenSpec.ofChange quarantineTellsWrong)

/-- 'kerbsidelaw23.ExplainMinimal': WHATEVER THE INPUT: true; the input reads as it did. -/
def explainMinimalSpec : ChangeSpec := { name := "explainMinimal", fn := fun _ => fun
  | [d1, d2, d3] => { results := [.lit (.bool true)], args := [d1, d2, d3] }
  | _ => none }
def explainMinimalRow : OpenClaim := { program := "ytikokmdpigploaagreat", sum := "87de06423b270da1e073fd35b7fb564d3dac36aa62a28e7659f866df51f747cf", func := "kerbside/kerbsidelaw23.ExplainMinimal", spec := "explainMinimal", unfollowed := true, recurses := true, apart := false }
def ExplainMinimalSaid : Prop := explainMinimalRow.holds Tryz.pinned (OpenSpec.ofChange explainMinimalSpec)

/-- ITS FALSE NEIGHBOUR: 'it returns false'. Refute it at one input. -/
def explainMinimalWrong : ChangeSpec := { name := "explainMinimal", fn := fun _ => fun
  | [d1, d2, d3] => { results := [.lit (.bool false)], args := [d1, d2, d3] }
  | _ => none }
def ExplainMinimalWrongFalsely : Prop := explainMinimalRow.holds Tryz.pinned (OpenSpec.ofChange explainMinimalWrong)

/-- 'kerbsidelaw26.ProbeLeaves': WHATEVER THE INPUT: true; the input reads as it did. -/
def probeLeavesSpec : ChangeSpec := { name := "probeLeaves", fn := fun _ => fun
  | [d1, d2, d3, d4] => { results := [.lit (.bool true)], args := [d1, d2, d3, d4] }
  | _ => none }
def probeLeavesRow : OpenClaim := { program := "ytikokmdpigploaagreat", sum := "87de06423b270da1e073fd35b7fb564d3dac36aa62a28e7659f866df51f747cf", func := "kerbside/kerbsidelaw26.ProbeLeaves", spec := "probeLeaves", unfollowed := true, recurses := true, apart := false }
def ProbeLeavesSaid : Prop := probeLeavesRow.holds Tryz.pinned (OpenSpec.ofChange probeLeavesSpec)

/-- ITS FALSE NEIGHBOUR: 'it returns false'. Refute it at one input. -/
def probeLeavesWrong : ChangeSpec := { name := "probeLeaves", fn := fun _ => fun
  | [d1, d2, d3, d4] => { results := [.lit (.bool false)], args := [d1, d2, d3, d4] }
  | _ => none }
def ProbeLeavesWrongFalsely : Prop := probeLeavesRow.holds Tryz.pinned (OpenSpec.ofChange probeLeavesWrong)

/-- 'kerbsidelaw26.ProbeNothing': WHATEVER THE INPUT: true; the input reads as it did. -/
def probeNothingSpec : ChangeSpec := { name := "probeNothing", fn := fun _ => fun
  | [d1, d2, d3] => { results := [.lit (.bool true)], args := [d1, d2, d3] }
  | _ => none }
def probeNothingRow : OpenClaim := { program := "ytikokmdpigploaagreat", sum := "87de06423b270da1e073fd35b7fb564d3dac36aa62a28e7659f866df51f747cf", func := "kerbside/kerbsidelaw26.ProbeNothing", spec := "probeNothing", unfollowed := true, recurses := true, apart := false }
def ProbeNothingSaid : Prop := probeNothingRow.holds Tryz.pinned (OpenSpec.ofChange probeNothingSpec)

/-- ITS FALSE NEIGHBOUR: 'it returns false'. Refute it at one input. -/
def probeNothingWrong : ChangeSpec := { name := "probeNothing", fn := fun _ => fun
  | [d1, d2, d3] => { results := [.lit (.bool false)], args := [d1, d2, d3] }
  | _ => none }
def ProbeNothingWrongFalsely : Prop := probeNothingRow.holds Tryz.pinned (OpenSpec.ofChange probeNothingWrong)

/- THE SECOND FORM. 'bulk': how many values and letters a reading holds, each counted each time it is reached (what is shared counts as often as it is met; a slice's spare places count too). A statement '..UptoSaid' is the law's where the arguments, and the package variables that the reading takes, are together of bulk at most 1048576: NARROWER than '..Said'. Prove '..Said' where nothing that the law and all that it calls make is longer than what came in: it says more and counts as full. Else prove '..UptoSaid'. A law counts once. -/
mutual
def uptoBulk {H : Type} : DataW H → Nat
  | .lit (.string bytes) => bytes.length + 1
  | .lit _ => 1
  | .nil => 1
  | .ptr d => uptoBulk d + 1
  | .slice elems spare => uptoBulkAll elems + uptoBulkAll spare + 1
  | .agg parts => uptoBulkAll parts + 1
  | .iface _ d => uptoBulk d + 1
  | .map entries => uptoBulkEntries entries + 1
  | .held _ => 1
def uptoBulkAll {H : Type} : List (DataW H) → Nat
  | [] => 0
  | d :: r => uptoBulk d + uptoBulkAll r
def uptoBulkEntries {H : Type} : List (Lit × DataW H) → Nat
  | [] => 0
  | x :: r => uptoBulkEntry x + uptoBulkEntries r
def uptoBulkEntry {H : Type} : Lit × DataW H → Nat
  | (.string bytes, d) => bytes.length + uptoBulk d + 1
  | (_, d) => uptoBulk d + 1
 end
def uptoSmall : (H : Type) → List (DataW H) → Bool := fun _ ds => decide (uptoBulkAll ds ≤ 1048576)
def OpenSpec.upto (s : _root_.Go.ChangeSpec) : _root_.Go.OpenSpec := { _root_.Go.OpenSpec.ofChange s with cond := some uptoSmall }

/-- 'kerbsidelaw23.ExplainTells', WHERE WHAT IT READS IS OF BULK AT MOST 1048576: true; the input reads as it did. -/
def explainTellsUptoRow : OpenClaim := { program := "ytikokmdpigploaagreat", sum := "87de06423b270da1e073fd35b7fb564d3dac36aa62a28e7659f866df51f747cf", func := "kerbside/kerbsidelaw23.ExplainTells", spec := "explainTells", unfollowed := true, recurses := true, apart := false, narrowed := true }
def ExplainTellsUptoSaid : Prop := explainTellsUptoRow.holds Tryz.pinned (OpenSpec.upto explainTellsSpec)

/-- 'kerbsidelaw23.ExplainGrows', WHERE WHAT IT READS IS OF BULK AT MOST 1048576: true; the input reads as it did. -/
def explainGrowsUptoRow : OpenClaim := { program := "ytikokmdpigploaagreat", sum := "87de06423b270da1e073fd35b7fb564d3dac36aa62a28e7659f866df51f747cf", func := "kerbside/kerbsidelaw23.ExplainGrows", spec := "explainGrows", unfollowed := true, recurses := true, apart := false, narrowed := true }
def ExplainGrowsUptoSaid : Prop := explainGrowsUptoRow.holds Tryz.pinned (OpenSpec.upto explainGrowsSpec)

/-- 'kerbsidelaw23.ExplainFewest', WHERE WHAT IT READS IS OF BULK AT MOST 1048576: true; the input reads as it did. -/
def explainFewestUptoRow : OpenClaim := { program := "ytikokmdpigploaagreat", sum := "87de06423b270da1e073fd35b7fb564d3dac36aa62a28e7659f866df51f747cf", func := "kerbside/kerbsidelaw23.ExplainFewest", spec := "explainFewest", unfollowed := true, recurses := true, apart := false, narrowed := true }
def ExplainFewestUptoSaid : Prop := explainFewestUptoRow.holds Tryz.pinned (OpenSpec.upto explainFewestSpec)

/-- 'kerbsidelaw22.SourceTells', WHERE WHAT IT READS IS OF BULK AT MOST 1048576: true; the input reads as it did. -/
def sourceTellsUptoRow : OpenClaim := { program := "ytikokmdpigploaagreat", sum := "87de06423b270da1e073fd35b7fb564d3dac36aa62a28e7659f866df51f747cf", func := "kerbside/kerbsidelaw22.SourceTells", spec := "sourceTells", unfollowed := true, recurses := true, apart := false, narrowed := true }
def SourceTellsUptoSaid : Prop := sourceTellsUptoRow.holds Tryz.pinned (OpenSpec.upto sourceTellsSpec)

/-- 'kerbsidelaw26.ProbeTells', WHERE WHAT IT READS IS OF BULK AT MOST 1048576: true; the input reads as it did. -/
def probeTellsUptoRow : OpenClaim := { program := "ytikokmdpigploaagreat", sum := "87de06423b270da1e073fd35b7fb564d3dac36aa62a28e7659f866df51f747cf", func := "kerbside/kerbsidelaw26.ProbeTells", spec := "probeTells", unfollowed := true, recurses := true, apart := false, narrowed := true }
def ProbeTellsUptoSaid : Prop := probeTellsUptoRow.holds Tryz.pinned (OpenSpec.upto probeTellsSpec)

/-- 'kerbsidelaw26.ProbeBest', WHERE WHAT IT READS IS OF BULK AT MOST 1048576: true; the input reads as it did. -/
def probeBestUptoRow : OpenClaim := { program := "ytikokmdpigploaagreat", sum := "87de06423b270da1e073fd35b7fb564d3dac36aa62a28e7659f866df51f747cf", func := "kerbside/kerbsidelaw26.ProbeBest", spec := "probeBest", unfollowed := true, recurses := true, apart := false, narrowed := true }
def ProbeBestUptoSaid : Prop := probeBestUptoRow.holds Tryz.pinned (OpenSpec.upto probeBestSpec)

/-- 'kerbsidelaw25.QuarantineTells', WHERE WHAT IT READS IS OF BULK AT MOST 1048576: true; the input reads as it did. -/
def quarantineTellsUptoRow : OpenClaim := { program := "ytikokmdpigploaagreat", sum := "87de06423b270da1e073fd35b7fb564d3dac36aa62a28e7659f866df51f747cf", func := "kerbside/kerbsidelaw25.QuarantineTells", spec := "quarantineTells", unfollowed := true, recurses := true, apart := false, narrowed := true }
def QuarantineTellsUptoSaid : Prop := quarantineTellsUptoRow.holds Tryz.pinned (OpenSpec.upto quarantineTellsSpec)

/-- 'kerbsidelaw23.ExplainMinimal', WHERE WHAT IT READS IS OF BULK AT MOST 1048576: true; the input reads as it did. -/
def explainMinimalUptoRow : OpenClaim := { program := "ytikokmdpigploaagreat", sum := "87de06423b270da1e073fd35b7fb564d3dac36aa62a28e7659f866df51f747cf", func := "kerbside/kerbsidelaw23.ExplainMinimal", spec := "explainMinimal", unfollowed := true, recurses := true, apart := false, narrowed := true }
def ExplainMinimalUptoSaid : Prop := explainMinimalUptoRow.holds Tryz.pinned (OpenSpec.upto explainMinimalSpec)

/-- 'kerbsidelaw26.ProbeLeaves', WHERE WHAT IT READS IS OF BULK AT MOST 1048576: true; the input reads as it did. -/
def probeLeavesUptoRow : OpenClaim := { program := "ytikokmdpigploaagreat", sum := "87de06423b270da1e073fd35b7fb564d3dac36aa62a28e7659f866df51f747cf", func := "kerbside/kerbsidelaw26.ProbeLeaves", spec := "probeLeaves", unfollowed := true, recurses := true, apart := false, narrowed := true }
def ProbeLeavesUptoSaid : Prop := probeLeavesUptoRow.holds Tryz.pinned (OpenSpec.upto probeLeavesSpec)

/-- 'kerbsidelaw26.ProbeNothing', WHERE WHAT IT READS IS OF BULK AT MOST 1048576: true; the input reads as it did. -/
def probeNothingUptoRow : OpenClaim := { program := "ytikokmdpigploaagreat", sum := "87de06423b270da1e073fd35b7fb564d3dac36aa62a28e7659f866df51f747cf", func := "kerbside/kerbsidelaw26.ProbeNothing", spec := "probeNothing", unfollowed := true, recurses := true, apart := false, narrowed := true }
def ProbeNothingUptoSaid : Prop := probeNothingUptoRow.holds Tryz.pinned (OpenSpec.upto probeNothingSpec)

end Rows
end Go.Proofs.YtikokmdpigploaaGreat
