/-
  No cell of these rows narrows 'for every input' (looked for: loops, veiled, ifaces, maps, wideKeys, modest, calm, conditions, laid).
  DERIVED. THE GIVEN ROWS OF THIS SEAT. 7 by the template 'for every input the law returns true; each argument reads behind the call as it read before'; 0 by the template 'total and deterministic' (their statements: YthjgbjakpbfnoaaTotals.lean).
  GIVEN WITH THE SEED: the statements are not yours to turn. If you find one false, say at which input.
  Laid BY PROGRAM, IN A SANDBOX (cutbox-rows.mjs): the forced cells as the released guide's own fill.sh prints them over the translation 67e7854876e4970f… (all of the seat's roots in one cut). By AI agents, Wed Nov 11 2026. No macro, syntax, notation, axiom, sorry.
-/
import Derived.Test.YthjgbjakpbfnoaaChecked
import GoSem.Claim
import GoSem.ClaimJoined
import GoSem.ClaimMapViews
import Derived.JoinedTies
import Derived.KernelRfl
namespace Go.Proofs.Ythjgbjakpbfnoaa
/- THE CELL 'sum', in the pinned program and in every row, IS THE sha256 OF THE DUMP (.gsa) THAT YthjgbjakpbfnoaaProg.lean LOADS. Nothing in Lean hashes anything: it is a label: what it is worth is what the hold of that sum in a sandbox is worth. -/
noncomputable def Try.pinned : Pinned := { name := "ythjgbjakpbfnoaa", sum := "67e7854876e4970f37bbb7e8feabbf3e6f6baa43a3f478a08ea717afbc21b9ae", checked := Try.checked }
namespace Rows
def none {H : Type} : Left H := { results := [], args := [] }

/-- 'kerbsidelaw14.FlowTells': WHATEVER THE INPUT: true; the input reads as it did. -/
def flowTellsSpec : ChangeSpec := { name := "flowTells", fn := fun _ => fun
  | [d1, d2, d3, d4, d5, d6, d7] => { results := [.lit (.bool true)], args := [d1, d2, d3, d4, d5, d6, d7] }
  | _ => none }
def flowTellsRow : OpenClaim := { program := "ythjgbjakpbfnoaa", sum := "67e7854876e4970f37bbb7e8feabbf3e6f6baa43a3f478a08ea717afbc21b9ae", func := "kerbside/kerbsidelaw14.FlowTells", spec := "flowTells", unfollowed := true, recurses := true, apart := false }
def FlowTellsSaid : Prop := flowTellsRow.holds Try.pinned (OpenSpec.ofChange flowTellsSpec)

/-- ITS FALSE NEIGHBOUR: 'it returns false'. Refute it at one input. -/
def flowTellsWrong : ChangeSpec := { name := "flowTells", fn := fun _ => fun
  | [d1, d2, d3, d4, d5, d6, d7] => { results := [.lit (.bool false)], args := [d1, d2, d3, d4, d5, d6, d7] }
  | _ => none }
def FlowTellsWrongFalsely : Prop := flowTellsRow.holds Try.pinned (OpenSpec.ofChange flowTellsWrong)

/-- 'kerbsidelaw14.FlowOnce': WHATEVER THE INPUT: true; the input reads as it did. -/
def flowOnceSpec : ChangeSpec := { name := "flowOnce", fn := fun _ => fun
  | [d1, d2] => { results := [.lit (.bool true)], args := [d1, d2] }
  | _ => none }
def flowOnceRow : OpenClaim := { program := "ythjgbjakpbfnoaa", sum := "67e7854876e4970f37bbb7e8feabbf3e6f6baa43a3f478a08ea717afbc21b9ae", func := "kerbside/kerbsidelaw14.FlowOnce", spec := "flowOnce", unfollowed := true, recurses := true, apart := false }
def FlowOnceSaid : Prop := flowOnceRow.holds Try.pinned (OpenSpec.ofChange flowOnceSpec)

/-- ITS FALSE NEIGHBOUR: 'it returns false'. Refute it at one input. -/
def flowOnceWrong : ChangeSpec := { name := "flowOnce", fn := fun _ => fun
  | [d1, d2] => { results := [.lit (.bool false)], args := [d1, d2] }
  | _ => none }
def FlowOnceWrongFalsely : Prop := flowOnceRow.holds Try.pinned (OpenSpec.ofChange flowOnceWrong)

/-- 'kerbsidelaw14.FlowLifts': WHATEVER THE INPUT: true; the input reads as it did. -/
def flowLiftsSpec : ChangeSpec := { name := "flowLifts", fn := fun _ => fun
  | [d1, d2, d3, d4, d5, d6] => { results := [.lit (.bool true)], args := [d1, d2, d3, d4, d5, d6] }
  | _ => none }
def flowLiftsRow : OpenClaim := { program := "ythjgbjakpbfnoaa", sum := "67e7854876e4970f37bbb7e8feabbf3e6f6baa43a3f478a08ea717afbc21b9ae", func := "kerbside/kerbsidelaw14.FlowLifts", spec := "flowLifts", unfollowed := true, recurses := true, apart := false }
def FlowLiftsSaid : Prop := flowLiftsRow.holds Try.pinned (OpenSpec.ofChange flowLiftsSpec)

/-- ITS FALSE NEIGHBOUR: 'it returns false'. Refute it at one input. -/
def flowLiftsWrong : ChangeSpec := { name := "flowLifts", fn := fun _ => fun
  | [d1, d2, d3, d4, d5, d6] => { results := [.lit (.bool false)], args := [d1, d2, d3, d4, d5, d6] }
  | _ => none }
def FlowLiftsWrongFalsely : Prop := flowLiftsRow.holds Try.pinned (OpenSpec.ofChange flowLiftsWrong)

/-- 'kerbsidelaw14.FlowLess': WHATEVER THE INPUT: true; the input reads as it did. -/
def flowLessSpec : ChangeSpec := { name := "flowLess", fn := fun _ => fun
  | [d1, d2, d3] => { results := [.lit (.bool true)], args := [d1, d2, d3] }
  | _ => none }
def flowLessRow : OpenClaim := { program := "ythjgbjakpbfnoaa", sum := "67e7854876e4970f37bbb7e8feabbf3e6f6baa43a3f478a08ea717afbc21b9ae", func := "kerbside/kerbsidelaw14.FlowLess", spec := "flowLess", unfollowed := true, recurses := true, apart := false }
def FlowLessSaid : Prop := flowLessRow.holds Try.pinned (OpenSpec.ofChange flowLessSpec)

/-- ITS FALSE NEIGHBOUR: 'it returns false'. Refute it at one input. -/
def flowLessWrong : ChangeSpec := { name := "flowLess", fn := fun _ => fun
  | [d1, d2, d3] => { results := [.lit (.bool false)], args := [d1, d2, d3] }
  | _ => none }
def FlowLessWrongFalsely : Prop := flowLessRow.holds Try.pinned (OpenSpec.ofChange flowLessWrong)

/-- 'kerbsidelaw24.ReachTells': WHATEVER THE INPUT: true; the input reads as it did. -/
def reachTellsSpec : ChangeSpec := { name := "reachTells", fn := fun _ => fun
  | [d1, d2, d3, d4, d5] => { results := [.lit (.bool true)], args := [d1, d2, d3, d4, d5] }
  | _ => none }
def reachTellsRow : OpenClaim := { program := "ythjgbjakpbfnoaa", sum := "67e7854876e4970f37bbb7e8feabbf3e6f6baa43a3f478a08ea717afbc21b9ae", func := "kerbside/kerbsidelaw24.ReachTells", spec := "reachTells", apart := false }
def ReachTellsSaid : Prop := reachTellsRow.holds Try.pinned (OpenSpec.ofChange reachTellsSpec)

/-- ITS FALSE NEIGHBOUR: 'it returns false'. Refute it at one input. -/
def reachTellsWrong : ChangeSpec := { name := "reachTells", fn := fun _ => fun
  | [d1, d2, d3, d4, d5] => { results := [.lit (.bool false)], args := [d1, d2, d3, d4, d5] }
  | _ => none }
def ReachTellsWrongFalsely : Prop := reachTellsRow.holds Try.pinned (OpenSpec.ofChange reachTellsWrong)

/-- 'kerbsidelaw24.ReachPaths': WHATEVER THE INPUT: true; the input reads as it did. -/
def reachPathsSpec : ChangeSpec := { name := "reachPaths", fn := fun _ => fun
  | [d1, d2, d3, d4] => { results := [.lit (.bool true)], args := [d1, d2, d3, d4] }
  | _ => none }
def reachPathsRow : OpenClaim := { program := "ythjgbjakpbfnoaa", sum := "67e7854876e4970f37bbb7e8feabbf3e6f6baa43a3f478a08ea717afbc21b9ae", func := "kerbside/kerbsidelaw24.ReachPaths", spec := "reachPaths", apart := false }
def ReachPathsSaid : Prop := reachPathsRow.holds Try.pinned (OpenSpec.ofChange reachPathsSpec)

/-- ITS FALSE NEIGHBOUR: 'it returns false'. Refute it at one input. -/
def reachPathsWrong : ChangeSpec := { name := "reachPaths", fn := fun _ => fun
  | [d1, d2, d3, d4] => { results := [.lit (.bool false)], args := [d1, d2, d3, d4] }
  | _ => none }
def ReachPathsWrongFalsely : Prop := reachPathsRow.holds Try.pinned (OpenSpec.ofChange reachPathsWrong)

/-- 'kerbsidelaw24.ReachMore': WHATEVER THE INPUT: true; the input reads as it did. -/
def reachMoreSpec : ChangeSpec := { name := "reachMore", fn := fun _ => fun
  | [d1, d2, d3, d4, d5] => { results := [.lit (.bool true)], args := [d1, d2, d3, d4, d5] }
  | _ => none }
def reachMoreRow : OpenClaim := { program := "ythjgbjakpbfnoaa", sum := "67e7854876e4970f37bbb7e8feabbf3e6f6baa43a3f478a08ea717afbc21b9ae", func := "kerbside/kerbsidelaw24.ReachMore", spec := "reachMore", apart := false }
def ReachMoreSaid : Prop := reachMoreRow.holds Try.pinned (OpenSpec.ofChange reachMoreSpec)

/-- ITS FALSE NEIGHBOUR: 'it returns false'. Refute it at one input. -/
def reachMoreWrong : ChangeSpec := { name := "reachMore", fn := fun _ => fun
  | [d1, d2, d3, d4, d5] => { results := [.lit (.bool false)], args := [d1, d2, d3, d4, d5] }
  | _ => none }
def ReachMoreWrongFalsely : Prop := reachMoreRow.holds Try.pinned (OpenSpec.ofChange reachMoreWrong)

/- THE SECOND FORM. 'bulk': how many values and letters a reading holds, each counted each time it is reached (what is shared counts as often as it is met; a slice's spare places count too). A statement '..UptoSaid' is the law's where the arguments, and the package variables that the reading takes, are together of bulk at most 1048576: NARROWER than '..Said'. Prove '..Said' where nothing that the law and all that it calls make is longer than what came in: it says more and counts as full. Else prove '..UptoSaid'. A law counts once. -/
mutual
def uptoBulk {H : Type} : DataW H → Nat
  | .lit (.string bytes) => bytes.length + 1
  | .lit _ => 1
  | .nil => 1
  | .ptr d => uptoBulk d + 1
  | .slice elems spare => uptoBulkAll elems + uptoBulkAll spare + 1
  | .agg parts => uptoBulkAll parts + 1
  | .iface _ d => uptoBulk d + 1
  | .map entries => uptoBulkEntries entries + 1
  | .held _ => 1
def uptoBulkAll {H : Type} : List (DataW H) → Nat
  | [] => 0
  | d :: r => uptoBulk d + uptoBulkAll r
def uptoBulkEntries {H : Type} : List (Lit × DataW H) → Nat
  | [] => 0
  | x :: r => uptoBulkEntry x + uptoBulkEntries r
def uptoBulkEntry {H : Type} : Lit × DataW H → Nat
  | (.string bytes, d) => bytes.length + uptoBulk d + 1
  | (_, d) => uptoBulk d + 1
 end
def uptoSmall : (H : Type) → List (DataW H) → Bool := fun _ ds => decide (uptoBulkAll ds ≤ 1048576)
def OpenSpec.upto (s : _root_.Go.ChangeSpec) : _root_.Go.OpenSpec := { _root_.Go.OpenSpec.ofChange s with cond := some uptoSmall }

/-- 'kerbsidelaw14.FlowTells', WHERE WHAT IT READS IS OF BULK AT MOST 1048576: true; the input reads as it did. -/
def flowTellsUptoRow : OpenClaim := { program := "ythjgbjakpbfnoaa", sum := "67e7854876e4970f37bbb7e8feabbf3e6f6baa43a3f478a08ea717afbc21b9ae", func := "kerbside/kerbsidelaw14.FlowTells", spec := "flowTells", unfollowed := true, recurses := true, apart := false, narrowed := true }
def FlowTellsUptoSaid : Prop := flowTellsUptoRow.holds Try.pinned (OpenSpec.upto flowTellsSpec)

/-- 'kerbsidelaw14.FlowOnce', WHERE WHAT IT READS IS OF BULK AT MOST 1048576: true; the input reads as it did. -/
def flowOnceUptoRow : OpenClaim := { program := "ythjgbjakpbfnoaa", sum := "67e7854876e4970f37bbb7e8feabbf3e6f6baa43a3f478a08ea717afbc21b9ae", func := "kerbside/kerbsidelaw14.FlowOnce", spec := "flowOnce", unfollowed := true, recurses := true, apart := false, narrowed := true }
def FlowOnceUptoSaid : Prop := flowOnceUptoRow.holds Try.pinned (OpenSpec.upto flowOnceSpec)

/-- 'kerbsidelaw14.FlowLifts', WHERE WHAT IT READS IS OF BULK AT MOST 1048576: true; the input reads as it did. -/
def flowLiftsUptoRow : OpenClaim := { program := "ythjgbjakpbfnoaa", sum := "67e7854876e4970f37bbb7e8feabbf3e6f6baa43a3f478a08ea717afbc21b9ae", func := "kerbside/kerbsidelaw14.FlowLifts", spec := "flowLifts", unfollowed := true, recurses := true, apart := false, narrowed := true }
def FlowLiftsUptoSaid : Prop := flowLiftsUptoRow.holds Try.pinned (OpenSpec.upto flowLiftsSpec)

/-- 'kerbsidelaw14.FlowLess', WHERE WHAT IT READS IS OF BULK AT MOST 1048576: true; the input reads as it did. -/
def flowLessUptoRow : OpenClaim := { program := "ythjgbjakpbfnoaa", sum := "67e7854876e4970f37bbb7e8feabbf3e6f6baa43a3f478a08ea717afbc21b9ae", func := "kerbside/kerbsidelaw14.FlowLess", spec := "flowLess", unfollowed := true, recurses := true, apart := false, narrowed := true }
def FlowLessUptoSaid : Prop := flowLessUptoRow.holds Try.pinned (OpenSpec.upto flowLessSpec)

/-- 'kerbsidelaw24.ReachTells', WHERE WHAT IT READS IS OF BULK AT MOST 1048576: true; the input reads as it did. -/
def reachTellsUptoRow : OpenClaim := { program := "ythjgbjakpbfnoaa", sum := "67e7854876e4970f37bbb7e8feabbf3e6f6baa43a3f478a08ea717afbc21b9ae", func := "kerbside/kerbsidelaw24.ReachTells", spec := "reachTells", apart := false, narrowed := true }
def ReachTellsUptoSaid : Prop := reachTellsUptoRow.holds Try.pinned (OpenSpec.upto reachTellsSpec)

/-- 'kerbsidelaw24.ReachPaths', WHERE WHAT IT READS IS OF BULK AT MOST 1048576: true; the input reads as it did. -/
def reachPathsUptoRow : OpenClaim := { program := "ythjgbjakpbfnoaa", sum := "67e7854876e4970f37bbb7e8feabbf3e6f6baa43a3f478a08ea717afbc21b9ae", func := "kerbside/kerbsidelaw24.ReachPaths", spec := "reachPaths", apart := false, narrowed := true }
def ReachPathsUptoSaid : Prop := reachPathsUptoRow.holds Try.pinned (OpenSpec.upto reachPathsSpec)

/-- 'kerbsidelaw24.ReachMore', WHERE WHAT IT READS IS OF BULK AT MOST 1048576: true; the input reads as it did. -/
def reachMoreUptoRow : OpenClaim := { program := "ythjgbjakpbfnoaa", sum := "67e7854876e4970f37bbb7e8feabbf3e6f6baa43a3f478a08ea717afbc21b9ae", func := "kerbside/kerbsidelaw24.ReachMore", spec := "reachMore", apart := false, narrowed := true }
def ReachMoreUptoSaid : Prop := reachMoreUptoRow.holds Try.pinned (OpenSpec.upto reachMoreSpec)

end Rows
end Go.Proofs.Ythjgbjakpbfnoaa
