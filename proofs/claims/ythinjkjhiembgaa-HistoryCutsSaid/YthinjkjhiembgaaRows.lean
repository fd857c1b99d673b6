/-
  No cell of these rows narrows 'for every input' (looked for: loops, veiled, ifaces, maps, wideKeys, modest, calm, conditions, laid).
  DERIVED. THE GIVEN ROWS OF THIS SEAT. 5 by the template 'for every input the law returns true; each argument reads behind the call as it read before'; 0 by the template 'total and deterministic' (their statements: YthinjkjhiembgaaTotals.lean).
  GIVEN WITH THE SEED: the statements are not yours to turn. If you find one false, say at which input.
  Laid BY PROGRAM, IN A SANDBOX (cutbox-rows.mjs): the forced cells as the released guide's own fill.sh prints them over the translation 29328ece143a15fe… (all of the seat's roots in one cut). By AI agents, Wed Nov 11 2026. No macro, syntax, notation, axiom, sorry.
-/
import Derived.Test.YthinjkjhiembgaaChecked
import GoSem.Claim
import GoSem.ClaimJoined
import GoSem.ClaimMapViews
import Derived.JoinedTies
import Derived.KernelRfl
namespace Go.Proofs.Ythinjkjhiembgaa
/- THE CELL 'sum', in the pinned program and in every row, IS THE sha256 OF THE DUMP (.gsa) THAT YthinjkjhiembgaaProg.lean LOADS. Nothing in Lean hashes anything: it is a label: what it is worth is what the hold of that sum in a sandbox is worth. -/
noncomputable def Try.pinned : Pinned := { name := "ythinjkjhiembgaa", sum := "29328ece143a15fe4c9d074d6093cf854459e4f408f442cf3fed6d92f328a948", checked := Try.checked }
namespace Rows
def none {H : Type} : Left H := { results := [], args := [] }

/-- 'kerbsidelaw15.HistoryCuts': WHATEVER THE INPUT: true; the input reads as it did. -/
def historyCutsSpec : ChangeSpec := { name := "historyCuts", fn := fun _ => fun
  | [d1, d2, d3] => { results := [.lit (.bool true)], args := [d1, d2, d3] }
  | _ => none }
def historyCutsRow : OpenClaim := { program := "ythinjkjhiembgaa", sum := "29328ece143a15fe4c9d074d6093cf854459e4f408f442cf3fed6d92f328a948", func := "kerbside/kerbsidelaw15.HistoryCuts", spec := "historyCuts", unfollowed := true, recurses := true, apart := false }
def HistoryCutsSaid : Prop := historyCutsRow.holds Try.pinned (OpenSpec.ofChange historyCutsSpec)

/-- ITS FALSE NEIGHBOUR: 'it returns false'. Refute it at one input. -/
def historyCutsWrong : ChangeSpec := { name := "historyCuts", fn := fun _ => fun
  | [d1, d2, d3] => { results := [.lit (.bool false)], args := [d1, d2, d3] }
  | _ => none }
def HistoryCutsWrongFalsely : Prop := historyCutsRow.holds Try.pinned (OpenSpec.ofChange historyCutsWrong)

/-- 'kerbsidelaw15.HistoryMixes': WHATEVER THE INPUT: true; the input reads as it did. -/
def historyMixesSpec : ChangeSpec := { name := "historyMixes", fn := fun _ => fun
  | [d1, d2, d3, d4, d5] => { results := [.lit (.bool true)], args := [d1, d2, d3, d4, d5] }
  | _ => none }
def historyMixesRow : OpenClaim := { program := "ythinjkjhiembgaa", sum := "29328ece143a15fe4c9d074d6093cf854459e4f408f442cf3fed6d92f328a948", func := "kerbside/kerbsidelaw15.HistoryMixes", spec := "historyMixes", unfollowed := true, recurses := true, apart := false }
def HistoryMixesSaid : Prop := historyMixesRow.holds Try.pinned (OpenSpec.ofChange historyMixesSpec)

/-- ITS FALSE NEIGHBOUR: 'it returns false'. Refute it at one input. -/
def historyMixesWrong : ChangeSpec := { name := "historyMixes", fn := fun _ => fun
  | [d1, d2, d3, d4, d5] => { results := [.lit (.bool false)], args := [d1, d2, d3, d4, d5] }
  | _ => none }
def HistoryMixesWrongFalsely : Prop := historyMixesRow.holds Try.pinned (OpenSpec.ofChange historyMixesWrong)

/-- 'kerbsidelaw15.HistoryRecalls': WHATEVER THE INPUT: true; the input reads as it did. -/
def historyRecallsSpec : ChangeSpec := { name := "historyRecalls", fn := fun _ => fun
  | [d1, d2, d3, d4] => { results := [.lit (.bool true)], args := [d1, d2, d3, d4] }
  | _ => none }
def historyRecallsRow : OpenClaim := { program := "ythinjkjhiembgaa", sum := "29328ece143a15fe4c9d074d6093cf854459e4f408f442cf3fed6d92f328a948", func := "kerbside/kerbsidelaw15.HistoryRecalls", spec := "historyRecalls", unfollowed := true, recurses := true, apart := false }
def HistoryRecallsSaid : Prop := historyRecallsRow.holds Try.pinned (OpenSpec.ofChange historyRecallsSpec)

/-- ITS FALSE NEIGHBOUR: 'it returns false'. Refute it at one input. -/
def historyRecallsWrong : ChangeSpec := { name := "historyRecalls", fn := fun _ => fun
  | [d1, d2, d3, d4] => { results := [.lit (.bool false)], args := [d1, d2, d3, d4] }
  | _ => none }
def HistoryRecallsWrongFalsely : Prop := historyRecallsRow.holds Try.pinned (OpenSpec.ofChange historyRecallsWrong)

/-- 'kerbsidelaw15.HistoryScales': WHATEVER THE INPUT: true; the input reads as it did. -/
def historyScalesSpec : ChangeSpec := { name := "historyScales", fn := fun _ => fun
  | [d1, d2, d3, d4] => { results := [.lit (.bool true)], args := [d1, d2, d3, d4] }
  | _ => none }
def historyScalesRow : OpenClaim := { program := "ythinjkjhiembgaa", sum := "29328ece143a15fe4c9d074d6093cf854459e4f408f442cf3fed6d92f328a948", func := "kerbside/kerbsidelaw15.HistoryScales", spec := "historyScales", unfollowed := true, recurses := true, apart := false }
def HistoryScalesSaid : Prop := historyScalesRow.holds Try.pinned (OpenSpec.ofChange historyScalesSpec)

/-- ITS FALSE NEIGHBOUR: 'it returns false'. Refute it at one input. -/
def historyScalesWrong : ChangeSpec := { name := "historyScales", fn := fun _ => fun
  | [d1, d2, d3, d4] => { results := [.lit (.bool false)], args := [d1, d2, d3, d4] }
  | _ => none }
def HistoryScalesWrongFalsely : Prop := historyScalesRow.holds Try.pinned (OpenSpec.ofChange historyScalesWrong)

/-- 'kerbsidelaw15.HistoryConserves': WHATEVER THE INPUT: true; the input reads as it did. -/
def historyConservesSpec : ChangeSpec := { name := "historyConserves", fn := fun _ => fun
  | [d1, d2, d3, d4] => { results := [.lit (.bool true)], args := [d1, d2, d3, d4] }
  | _ => none }
def historyConservesRow : OpenClaim := { program := "ythinjkjhiembgaa", sum := "29328ece143a15fe4c9d074d6093cf854459e4f408f442cf3fed6d92f328a948", func := "kerbside/kerbsidelaw15.HistoryConserves", spec := "historyConserves", unfollowed := true, recurses := true, apart := false }
def HistoryConservesSaid : Prop := historyConservesRow.holds Try.pinned (OpenSpec.ofChange historyConservesSpec)

/-- ITS FALSE NEIGHBOUR: 'it returns false'. Refute it at one input. -/
def historyConservesWrong : ChangeSpec := { name := "historyConserves", fn := fun _ => fun
  | [d1, d2, d3, d4] => { results := [.lit (.bool false)], args := [d1, d2, d3, d4] }
  | _ => none }
def HistoryConservesWrongFalsely : Prop := historyConservesRow.holds Try.pinned (OpenSpec.ofChange historyConservesWrong)

/- THE SECOND FORM. 'bulk': how many values and letters a reading holds, each counted each time it is reached (what is shared counts as often as it is met; a slice's spare places count too). A statement '..UptoSaid' is the law's where the arguments, and the package variables that the reading takes, are together of bulk at most 1048576: NARROWER than '..Said'. Prove '..Said' where nothing that the law and all that it calls make is longer than what came in: it says more and counts as full. Else prove '..UptoSaid'. A law counts once. -/
mutual
def uptoBulk {H : Type} : DataW H → Nat
  | .lit (.string bytes) => bytes.length + 1
  | .lit _ => 1
  | .nil => 1
  | .ptr d => uptoBulk d + 1
  | .slice elems spare => uptoBulkAll elems + uptoBulkAll spare + 1
  | .agg parts => uptoBulkAll parts + 1
  | .iface _ d => uptoBulk d + 1
  | .map entries => uptoBulkEntries entries + 1
  | .held _ => 1
def uptoBulkAll {H : Type} : List (DataW H) → Nat
  | [] => 0
  | d :: r => uptoBulk d + uptoBulkAll r
def uptoBulkEntries {H : Type} : List (Lit × DataW H) → Nat
  | [] => 0
  | x :: r => uptoBulkEntry x + uptoBulkEntries r
def uptoBulkEntry {H : Type} : Lit × DataW H → Nat
  | (.string bytes, d) => bytes.length + uptoBulk d + 1
  | (_, d) => uptoBulk d + 1
 end
def uptoSmall : (H : Type) → List (DataW H) → Bool := fun _ ds => decide (uptoBulkAll ds ≤ 1048576)
def OpenSpec.upto (s : _root_.Go.ChangeSpec) : _root_.Go.OpenSpec := { _root_.Go.OpenSpec.ofChange s with cond := some uptoSmall }

/-- 'kerbsidelaw15.HistoryCuts', WHERE WHAT IT READS IS OF BULK AT MOST 1048576: true; the input reads as it did. -/
def historyCutsUptoRow : OpenClaim := { program := "ythinjkjhiembgaa", sum := "29328ece143a15fe4c9d074d6093cf854459e4f408f442cf3fed6d92f328a948", func := "kerbside/kerbsidelaw15.HistoryCuts", spec := "historyCuts", unfollowed := true, recurses := true, apart := false, narrowed := true }
def HistoryCutsUptoSaid : Prop := historyCutsUptoRow.holds Try.pinned (OpenSpec.upto historyCutsSpec)

/-- 'kerbsidelaw15.HistoryMixes', WHERE WHAT IT READS IS OF BULK AT MOST 1048576: true; the input reads as it did. -/
def historyMixesUptoRow : OpenClaim := { program := "ythinjkjhiembgaa", sum := "29328ece143a15fe4c9d074d6093cf854459e4f408f442cf3fed6d92f328a948", func := "kerbside/kerbsidelaw15.HistoryMixes", spec := "historyMixes", unfollowed := true, recurses := true, apart := false, narrowed := true }
def HistoryMixesUptoSaid : Prop := historyMixesUptoRow.holds Try.pinned (OpenSpec.upto historyMixesSpec)

/-- 'kerbsidelaw15.HistoryRecalls', WHERE WHAT IT READS IS OF BULK AT MOST 1048576: true; the input reads as it did. -/
def historyRecallsUptoRow : OpenClaim := { program := "ythinjkjhiembgaa", sum := "29328ece143a15fe4c9d074d6093cf854459e4f408f442cf3fed6d92f328a948", func := "kerbside/kerbsidelaw15.HistoryRecalls", spec := "historyRecalls", unfollowed := true, recurses := true, apart := false, narrowed := true }
def HistoryRecallsUptoSaid : Prop := historyRecallsUptoRow.holds Try.pinned (OpenSpec.upto historyRecallsSpec)

/-- 'kerbsidelaw15.HistoryScales', WHERE WHAT IT READS IS OF BULK AT MOST 1048576: true; the input reads as it did. -/
def historyScalesUptoRow : OpenClaim := { program := "ythinjkjhiembgaa", sum := "29328ece143a15fe4c9d074d6093cf854459e4f408f442cf3fed6d92f328a948", func := "kerbside/kerbsidelaw15.HistoryScales", spec := "historyScales", unfollowed := true, recurses := true, apart := false, narrowed := true }
def HistoryScalesUptoSaid : Prop := historyScalesUptoRow.holds Try.pinned (OpenSpec.upto historyScalesSpec)

/-- 'kerbsidelaw15.HistoryConserves', WHERE WHAT IT READS IS OF BULK AT MOST 1048576: true; the input reads as it did. -/
def historyConservesUptoRow : OpenClaim := { program := "ythinjkjhiembgaa", sum := "29328ece143a15fe4c9d074d6093cf854459e4f408f442cf3fed6d92f328a948", func := "kerbside/kerbsidelaw15.HistoryConserves", spec := "historyConserves", unfollowed := true, recurses := true, apart := false, narrowed := true }
def HistoryConservesUptoSaid : Prop := historyConservesUptoRow.holds Try.pinned (OpenSpec.upto historyConservesSpec)

end Rows
end Go.Proofs.Ythinjkjhiembgaa
