/-
  No cell of these rows narrows 'for every input' (looked for: loops, veiled, ifaces, maps, wideKeys, modest, calm, conditions, laid).
  DERIVED. THE GIVEN ROWS OF THIS SEAT. 11 by the template 'for every input the law returns true; each argument reads behind the call as it read before'; 0 by the template 'total and deterministic' (their statements: YtdbogogfeffjlaaGreatTotals.lean).
  GIVEN WITH THE SEED: the statements are not yours to turn. If you find one false, say at which input.
  Laid BY PROGRAM, IN A SANDBOX (cutbox-rows.mjs): the forced cells as the released guide's own fill.sh prints them over the translation 8c5bf2b13afac0b8… (all of the seat's roots in one cut). By AI agents, Wed Nov 11 2026. No macro, syntax, notation, axiom, sorry.
-/
import Derived.Test.YtdbogogfeffjlaaGreatChecked
import GoSem.Claim
import GoSem.ClaimJoined
import GoSem.ClaimMapViews
import Derived.JoinedTies
import Derived.KernelRfl
namespace Go.Proofs.YtdbogogfeffjlaaGreat
/- THE CELL 'sum', in the pinned program and in every row, IS THE sha256 OF THE DUMP (.gsa) THAT YtdbogogfeffjlaaGreatProg.lean LOADS. Nothing in Lean hashes anything: it is a label: what it is worth is what the hold of that sum in a sandbox is worth. -/
noncomputable def Tryz.pinned : Pinned := { name := "ytdbogogfeffjlaagreat", sum := "8c5bf2b13afac0b879a16f21db2fdb2a75f0b9b9f8fbd94e5504d21e9d616508", checked := Tryz.checked }
namespace Rows
def none {H : Type} : Left H := { results := [], args := [] }

/-- 'kerbsidelaw22.SourceMore': WHATEVER THE INPUT: true; the input reads as it did. -/
def sourceMoreSpec : ChangeSpec := { name := "sourceMore", fn := fun _ => fun
  | [d1, d2, d3, d4, d5] => { results := [.lit (.bool true)], args := [d1, d2, d3, d4, d5] }
  | _ => none }
def sourceMoreRow : OpenClaim := { program := "ytdbogogfeffjlaagreat", sum := "8c5bf2b13afac0b879a16f21db2fdb2a75f0b9b9f8fbd94e5504d21e9d616508", func := "kerbside/kerbsidelaw22.SourceMore", spec := "sourceMore", unfollowed := true, recurses := true, apart := false }
def SourceMoreSaid : Prop := sourceMoreRow.holds Tryz.pinned (OpenSpec.ofChange sourceMoreSpec)

/-- ITS FALSE NEIGHBOUR: 'it returns false'. Refute it at one input. -/
def sourceMoreWrong : ChangeSpec := { name := "sourceMore", fn := fun _ => fun
  | [d1, d2, d3, d4, d5] => { results := [.lit (.bool false)], args := [d1, d2, d3, d4, d5] }
  | _ => none }
def SourceMoreWrongFalsely : Prop := sourceMoreRow.holds Tryz.pinned (OpenSpec.ofChange sourceMoreWrong)

/-- 'kerbsidelaw22.SourceFinds': WHATEVER THE INPUT: true; the input reads as it did. -/
def sourceFindsSpec : ChangeSpec := { name := "sourceFinds", fn := fun _ => fun
  | [d1, d2] => { results := [.lit (.bool true)], args := [d1, d2] }
  | _ => none }
def sourceFindsRow : OpenClaim := { program := "ytdbogogfeffjlaagreat", sum := "8c5bf2b13afac0b879a16f21db2fdb2a75f0b9b9f8fbd94e5504d21e9d616508", func := "kerbside/kerbsidelaw22.SourceFinds", spec := "sourceFinds", unfollowed := true, recurses := true, apart := false }
def SourceFindsSaid : Prop := sourceFindsRow.holds Tryz.pinned (OpenSpec.ofChange sourceFindsSpec)

/-- ITS FALSE NEIGHBOUR: 'it returns false'. Refute it at one input. -/
def sourceFindsWrong : ChangeSpec := { name := "sourceFinds", fn := fun _ => fun
  | [d1, d2] => { results := [.lit (.bool false)], args := [d1, d2] }
  | _ => none }
def SourceFindsWrongFalsely : Prop := sourceFindsRow.holds Tryz.pinned (OpenSpec.ofChange sourceFindsWrong)

/-- 'kerbsidelaw22.SourceTrue': WHATEVER THE INPUT: true; the input reads as it did. -/
def sourceTrueSpec : ChangeSpec := { name := "sourceTrue", fn := fun _ => fun
  | [d1, d2, d3] => { results := [.lit (.bool true)], args := [d1, d2, d3] }
  | _ => none }
def sourceTrueRow : OpenClaim := { program := "ytdbogogfeffjlaagreat", sum := "8c5bf2b13afac0b879a16f21db2fdb2a75f0b9b9f8fbd94e5504d21e9d616508", func := "kerbside/kerbsidelaw22.SourceTrue", spec := "sourceTrue", unfollowed := true, recurses := true, apart := false }
def SourceTrueSaid : Prop := sourceTrueRow.holds Tryz.pinned (OpenSpec.ofChange sourceTrueSpec)

/-- ITS FALSE NEIGHBOUR: 'it returns false'. Refute it at one input. -/
def sourceTrueWrong : ChangeSpec := { name := "sourceTrue", fn := fun _ => fun
  | [d1, d2, d3] => { results := [.lit (.bool false)], args := [d1, d2, d3] }
  | _ => none }
def SourceTrueWrongFalsely : Prop := sourceTrueRow.holds Tryz.pinned (OpenSpec.ofChange sourceTrueWrong)

/-- 'kerbsidelaw25.QuarantineMore': WHATEVER THE INPUT: true; the input reads as it did. -/
def quarantineMoreSpec : ChangeSpec := { name := "quarantineMore", fn := fun _ => fun
  | [d1, d2, d3, d4] => { results := [.lit (.bool true)], args := [d1, d2, d3, d4] }
  | _ => none }
def quarantineMoreRow : OpenClaim := { program := "ytdbogogfeffjlaagreat", sum := "8c5bf2b13afac0b879a16f21db2fdb2a75f0b9b9f8fbd94e5504d21e9d616508", func := "kerbside/kerbsidelaw25.QuarantineMore", spec := "quarantineMore", unfollowed := true, recurses := true, apart := false }
def QuarantineMoreSaid : Prop := quarantineMoreRow.holds Tryz.pinned (OpenSpec.ofChange quarantineMoreSpec)

/-- ITS FALSE NEIGHBOUR: 'it returns false'. Refute it at one input. -/
def quarantineMoreWrong : ChangeSpec := { name := "quarantineMore", fn := fun _ => fun
  | [d1, d2, d3, d4] => { results := [.lit (.bool false)], args := [d1, d2, d3, d4] }
  | _ => none }
def QuarantineMoreWrongFalsely : Prop := quarantineMoreRow.holds Tryz.pinned (OpenSpec.ofChange quarantineMoreWrong)

/-- 'kerbsidelaw22.SourceTells': WHATEVER THE INPUT: true; the input reads as it did. -/
def sourceTellsSpec : ChangeSpec := { name := "sourceTells", fn := fun _ => fun
  | [d1, d2, d3, d4] => { results := [.lit (.bool true)], args := [d1, d2, d3, d4] }
  | _ => none }
def sourceTellsRow : OpenClaim := { program := "ytdbogogfeffjlaagreat", sum := "8c5bf2b13afac0b879a16f21db2fdb2a75f0b9b9f8fbd94e5504d21e9d616508", func := "kerbside/kerbsidelaw22.SourceTells", spec := "sourceTells", unfollowed := true, recurses := true, apart := false }
def SourceTellsSaid : Prop := sourceTellsRow.holds Tryz.pinned (OpenSpec.ofChange sourceTellsSpec)

/-- ITS FALSE NEIGHBOUR: 'it returns false'. Refute it at one input. -/
def sourceTellsWrong : ChangeSpec := { name := "sourceTells", fn := fun _ => fun
  | [d1, d2, d3, d4] => { results := [.lit (.bool false)], args := [d1, d2, d3, d4] }
  | _ => none }
def SourceTellsWrongFalsely : Prop := sourceTellsRow.holds Tryz.pinned (OpenSpec.ofChange sourceTellsWrong)

/-- 'kerbsidelaw22.SourceProves': WHATEVER THE INPUT: true; the input reads as it did. -/
def sourceProvesSpec : ChangeSpec := { name := "sourceProves", fn := fun _ => fun
  | [d1, d2, d3] => { results := [.lit (.bool true)], args := [d1, d2, d3] }
  | _ => none }
def sourceProvesRow : OpenClaim := { program := "ytdbogogfeffjlaagreat", sum := "8c5bf2b13afac0b879a16f21db2fdb2a75f0b9b9f8fbd94e5504d21e9d616508", func := "kerbside/kerbsidelaw22.SourceProves", spec := "sourceProves", unfollowed := true, recurses := true, apart := false }
def SourceProvesSaid : Prop := sourceProvesRow.holds Tryz.pinned (OpenSpec.ofChange sourceProvesSpec)

/-- ITS FALSE NEIGHBOUR: 'it returns false'. Refute it at one input. -/
def sourceProvesWrong : ChangeSpec := { name := "sourceProves", fn := fun _ => fun
  | [d1, d2, d3] => { results := [.lit (.bool false)], args := [d1, d2, d3] }
  | _ => none }
def SourceProvesWrongFalsely : Prop := sourceProvesRow.holds Tryz.pinned (OpenSpec.ofChange sourceProvesWrong)

/-- 'kerbsidelaw25.QuarantineTells': WHATEVER THE INPUT: true; the input reads as it did. -/
def quarantineTellsSpec : ChangeSpec := { name := "quarantineTells", fn := fun _ => fun
  | [d1, d2, d3] => { results := [.lit (.bool true)], args := [d1, d2, d3] }
  | _ => none }
def quarantineTellsRow : OpenClaim := { program := "ytdbogogfeffjlaagreat", sum := "8c5bf2b13afac0b879a16f21db2fdb2a75f0b9b9f8fbd94e5504d21e9d616508", func := "kerbside/kerbsidelaw25.QuarantineTells", spec := "quarantineTells", unfollowed := true, recurses := true, apart := false }
def QuarantineTellsSaid : Prop := quarantineTellsRow.holds Tryz.pinned (OpenSpec.ofChange quarantineTellsSpec)

/-- ITS FALSE NEIGHBOUR: 'it returns false'. Refute it at one input. -/
def quarantineTellsWrong : ChangeSpec := { name := "quarantineTells", fn := fun _ => fun
  | [d1, d2, d3] => { results := [.lit (.bool false)], args := [d1, d2, d3] }
  | _ => none }
def QuarantineTellsWrongFalsely : Prop := quarantineTellsRow.holds Tryz.pinned (OpenSpec.ofChange quarantineTellsWrong)

/-- 'kerbsidelaw25.QuarantineSold': WHATEVER THE INPUT: true; the input reads as it did. -/
def quarantineSoldSpec : ChangeSpec := { name := "quarantineSold", fn := fun _ => fun
  | [d1, d2] => { results := [.lit (.bool true)], args := [d1, d2] }
  | _ => none }
def quarantineSoldRow : OpenClaim := { program := "ytdbogogfeffjlaagreat", sum := "8c5bf2b13afac0b879a16f21db2fdb2a75f0b9b9f8fbd94e5504d21e9d616508", func := "kerbside/kerbsidelaw25.QuarantineSold", spec := "quarantineSold", unfollowed := true, recurses := true, apart := false }
def QuarantineSoldSaid : Prop := quarantineSoldRow.holds Tryz.pinned (OpenSpec.ofChange quarantineSoldSpec)

/-- ITS FALSE NEIGHBOUR: 'it returns false'. Refute it at one input. -/
def quarantineSoldWrong : ChangeSpec := { name := "quarantineSold", fn := fun _ => fun
  | [d1, d2] => { results := [.lit (.bool false)], args := [d1, d2] }
  | _ => none }
def QuarantineSoldWrongFalsely : Prop := quarantineSoldRow.holds Tryz.pinned (OpenSpec.ofChange quarantineSoldWrong)

/-- 'kerbsidelaw25.QuarantineMatter': WHATEVER THE INPUT: true; the input reads as it did. -/
def quarantineMatterSpec : ChangeSpec := { name := "quarantineMatter", fn := fun _ => fun
  | [d1, d2, d3] => { results := [.lit (.bool true)], args := [d1, d2, d3] }
  | _ => none }
def quarantineMatterRow : OpenClaim := { program := "ytdbogogfeffjlaagreat", sum := "8c5bf2b13afac0b879a16f21db2fdb2a75f0b9b9f8fbd94e5504d21e9d616508", func := "kerbside/kerbsidelaw25.QuarantineMatter", spec := "quarantineMatter", unfollowed := true, recurses := true, apart := false }
def QuarantineMatterSaid : Prop := quarantineMatterRow.holds Tryz.pinned (OpenSpec.ofChange quarantineMatterSpec)

/-- ITS FALSE NEIGHBOUR: 'it returns false'. Refute it at one input. -/
def quarantineMatterWrong : ChangeSpec := { name := "quarantineMatter", fn := fun _ => fun
  | [d1, d2, d3] => { results := [.lit (.bool false)], args := [d1, d2, d3] }
  | _ => none }
def QuarantineMatterWrongFalsely : Prop := quarantineMatterRow.holds Tryz.pinned (OpenSpec.ofChange quarantineMatterWrong)

/-- 'kerbsidelaw25.QuarantineReach': WHATEVER THE INPUT: true; the input reads as it did. -/
def quarantineReachSpec : ChangeSpec := { name := "quarantineReach", fn := fun _ => fun
  | [d1, d2] => { results := [.lit (.bool true)], args := [d1, d2] }
  | _ => none }
def quarantineReachRow : OpenClaim := { program := "ytdbogogfeffjlaagreat", sum := "8c5bf2b13afac0b879a16f21db2fdb2a75f0b9b9f8fbd94e5504d21e9d616508", func := "kerbside/kerbsidelaw25.QuarantineReach", spec := "quarantineReach", unfollowed := true, recurses := true, apart := false }
def QuarantineReachSaid : Prop := quarantineReachRow.holds Tryz.pinned (OpenSpec.ofChange quarantineReachSpec)

/-- ITS FALSE NEIGHBOUR: 'it returns false'. Refute it at one input. -/
def quarantineReachWrong : ChangeSpec := { name := "quarantineReach", fn := fun _ => fun
  | [d1, d2] => { results := [.lit (.bool false)], args := [d1, d2] }
  | _ => none }
def QuarantineReachWrongFalsely : Prop := quarantineReachRow.holds Tryz.pinned (OpenSpec.ofChange quarantineReachWrong)

/-- 'kerbsidelaw25.QuarantineProves': WHATEVER THE INPUT: true; the input reads as it did. -/
def quarantineProvesSpec : ChangeSpec := { name := "quarantineProves", fn := fun _ => fun
  | [d1, d2, d3, d4, d5, d6] => { results := [.lit (.bool true)], args := [d1, d2, d3, d4, d5, d6] }
  | _ => none }
def quarantineProvesRow : OpenClaim := { program := "ytdbogogfeffjlaagreat", sum := "8c5bf2b13afac0b879a16f21db2fdb2a75f0b9b9f8fbd94e5504d21e9d616508", func := "kerbside/kerbsidelaw25.QuarantineProves", spec := "quarantineProves", unfollowed := true, recurses := true, apart := false }
def QuarantineProvesSaid : Prop := quarantineProvesRow.holds Tryz.pinned (OpenSpec.ofChange quarantineProvesSpec)

/-- ITS FALSE NEIGHBOUR: 'it returns false'. Refute it at one input. -/
def quarantineProvesWrong : ChangeSpec := { name := "quarantineProves", fn := fun _ => fun
  | [d1, d2, d3, d4, d5, d6] => { results := [.lit (.bool false)], args := [d1, d2, d3, d4, d5, d6] }
  | _ => none }
def QuarantineProvesWrongFalsely : Prop := quarantineProvesRow.holds Tryz.pinned (OpenSpec.ofChange quarantineProvesWrong)

/- THE SECOND FORM. 'bulk': how many values and letters a reading holds, each counted each time it is reached (what is shared counts as often as it is met; a slice's spare places count too). A statement '..UptoSaid' is the law's where the arguments, and the package variables that the reading takes, are together of bulk at most 1048576: NARROWER than '..Said'. Prove '..Said' where nothing that the law and all that it calls make is longer than what came in: it says more and counts as full. Else prove '..UptoSaid'. A law counts once. -/
mutual
def uptoBulk {H : Type} : DataW H → Nat
  | .lit (.string bytes) => bytes.length + 1
  | .lit _ => 1
  | .nil => 1
  | .ptr d => uptoBulk d + 1
  | .slice elems spare => uptoBulkAll elems + uptoBulkAll spare + 1
  | .agg parts => uptoBulkAll parts + 1
  | .iface _ d => uptoBulk d + 1
  | .map entries => uptoBulkEntries entries + 1
  | .held _ => 1
def uptoBulkAll {H : Type} : List (DataW H) → Nat
  | [] => 0
  | d :: r => uptoBulk d + uptoBulkAll r
def uptoBulkEntries {H : Type} : List (Lit × DataW H) → Nat
  | [] => 0
  | x :: r => uptoBulkEntry x + uptoBulkEntries r
def uptoBulkEntry {H : Type} : Lit × DataW H → Nat
  | (.string bytes, d) => bytes.length + uptoBulk d + 1
  | (_, d) => uptoBulk d + 1
 end
def uptoSmall : (H : Type) → List (DataW H) → Bool := fun _ ds => decide (uptoBulkAll ds ≤ 1048576)
def OpenSpec.upto (s : _root_.Go.ChangeSpec) : _root_.Go.OpenSpec := { _root_.Go.OpenSpec.ofChange s with cond := some uptoSmall }

/-- 'kerbsidelaw22.SourceMore', WHERE WHAT IT READS IS OF BULK AT MOST 1048576: true; the input reads as it did. -/
def sourceMoreUptoRow : OpenClaim := { program := "ytdbogogfeffjlaagreat", sum := "8c5bf2b13afac0b879a16f21db2fdb2a75f0b9b9f8fbd94e5504d21e9d616508", func := "kerbside/kerbsidelaw22.SourceMore", spec := "sourceMore", unfollowed := true, recurses := true, apart := false, narrowed := true }
def SourceMoreUptoSaid : Prop := sourceMoreUptoRow.holds Tryz.pinned (OpenSpec.upto sourceMoreSpec)

/-- 'kerbsidelaw22.SourceFinds', WHERE WHAT IT READS IS OF BULK AT MOST 1048576: true; the input reads as it did. -/
def sourceFindsUptoRow : OpenClaim := { program := "ytdbogogfeffjlaagreat", sum := "8c5bf2b13afac0b879a16f21db2fdb2a75f0b9b9f8fbd94e5504d21e9d616508", func := "kerbside/kerbsidelaw22.SourceFinds", spec := "sourceFinds", unfollowed := true, recurses := true, apart := false, narrowed := true }
def SourceFindsUptoSaid : Prop := sourceFindsUptoRow.holds Tryz.pinned (OpenSpec.upto sourceFindsSpec)

/-- 'kerbsidelaw22.SourceTrue', WHERE WHAT IT READS IS OF BULK AT MOST 1048576: true; the input reads as it did. -/
def sourceTrueUptoRow : OpenClaim := { program := "ytdbogogfeffjlaagreat", sum := "8c5bf2b13afac0b879a16f21db2fdb2a75f0b9b9f8fbd94e5504d21e9d616508", func := "kerbside/kerbsidelaw22.SourceTrue", spec := "sourceTrue", unfollowed := true, recurses := true, apart := false, narrowed := true }
def SourceTrueUptoSaid : Prop := sourceTrueUptoRow.holds Tryz.pinned (OpenSpec.upto sourceTrueSpec)

/-- 'kerbsidelaw25.QuarantineMore', WHERE WHAT IT READS IS OF BULK AT MOST 1048576: true; the input reads as it did. -/
def quarantineMoreUptoRow : OpenClaim := { program := "ytdbogogfeffjlaagreat", sum := "8c5bf2b13afac0b879a16f21db2fdb2a75f0b9b9f8fbd94e5504d21e9d616508", func := "kerbside/kerbsidelaw25.QuarantineMore", spec := "quarantineMore", unfollowed := true, recurses := true, apart := false, narrowed := true }
def QuarantineMoreUptoSaid : Prop := quarantineMoreUptoRow.holds Tryz.pinned (OpenSpec.upto quarantineMoreSpec)

/-- 'kerbsidelaw22.SourceTells', WHERE WHAT IT READS IS OF BULK AT MOST 1048576: true; the input reads as it did. -/
def sourceTellsUptoRow : OpenClaim := { program := "ytdbogogfeffjlaagreat", sum := "8c5bf2b13afac0b879a16f21db2fdb2a75f0b9b9f8fbd94e5504d21e9d616508", func := "kerbside/kerbsidelaw22.SourceTells", spec := "sourceTells", unfollowed := true, recurses := true, apart := false, narrowed := true }
def SourceTellsUptoSaid : Prop := sourceTellsUptoRow.holds Tryz.pinned (OpenSpec.upto sourceTellsSpec)

/-- 'kerbsidelaw22.SourceProves', WHERE WHAT IT READS IS OF BULK AT MOST 1048576: true; the input reads as it did. -/
def sourceProvesUptoRow : OpenClaim := { program := "ytdbogogfeffjlaagreat", sum := "8c5bf2b13afac0b879a16f21db2fdb2a75f0b9b9f8fbd94e5504d21e9d616508", func := "kerbside/kerbsidelaw22.SourceProves", spec := "sourceProves", unfollowed := true, recurses := true, apart := false, narrowed := true }
def SourceProvesUptoSaid : Prop := sourceProvesUptoRow.holds Tryz.pinned (OpenSpec.upto sourceProvesSpec)

/-- 'kerbsidelaw25.QuarantineTells', WHERE WHAT IT READS IS OF BULK AT MOST 1048576: true; the input reads as it did. -/
def quarantineTellsUptoRow : OpenClaim := { program := "ytdbogogfeffjlaagreat", sum := "8c5bf2b13afac0b879a16f21db2fdb2a75f0b9b9f8fbd94e5504d21e9d616508", func := "kerbside/kerbsidelaw25.QuarantineTells", spec := "quarantineTells", unfollowed := true, recurses := true, apart := false, narrowed := true }
def QuarantineTellsUptoSaid : Prop := quarantineTellsUptoRow.holds Tryz.pinned (OpenSpec.upto quarantineTellsSpec)

/-- 'kerbsidelaw25.QuarantineSold', WHERE WHAT IT READS IS OF BULK AT MOST 1048576: true; the input reads as it did. -/
def quarantineSoldUptoRow : OpenClaim := { program := "ytdbogogfeffjlaagreat", sum := "8c5bf2b13afac0b879a16f21db2fdb2a75f0b9b9f8fbd94e5504d21e9d616508", func := "kerbside/kerbsidelaw25.QuarantineSold", spec := "quarantineSold", unfollowed := true, recurses := true, apart := false, narrowed := true }
def QuarantineSoldUptoSaid : Prop := quarantineSoldUptoRow.holds Tryz.pinned (OpenSpec.upto quarantineSoldSpec)

/-- 'kerbsidelaw25.QuarantineMatter', WHERE WHAT IT READS IS OF BULK AT MOST 1048576: true; the input reads as it did. -/
def quarantineMatterUptoRow : OpenClaim := { program := "ytdbogogfeffjlaagreat", sum := "8c5bf2b13afac0b879a16f21db2fdb2a75f0b9b9f8fbd94e5504d21e9d616508", func := "kerbside/kerbsidelaw25.QuarantineMatter", spec := "quarantineMatter", unfollowed := true, recurses := true, apart := false, narrowed := true }
def QuarantineMatterUptoSaid : Prop := quarantineMatterUptoRow.holds Tryz.pinned (OpenSpec.upto quarantineMatterSpec)

/-- 'kerbsidelaw25.QuarantineReach', WHERE WHAT IT READS IS OF BULK AT MOST 1048576: true; the input reads as it did. -/
def quarantineReachUptoRow : OpenClaim := { program := "ytdbogogfeffjlaagreat", sum := "8c5bf2b13afac0b879a16f21db2fdb2a75f0b9b9f8fbd94e5504d21e9d616508", func := "kerbside/kerbsidelaw25.QuarantineReach", spec := "quarantineReach", unfollowed := true, recurses := true, apart := false, narrowed := true }
def QuarantineReachUptoSaid : Prop := quarantineReachUptoRow.holds Tryz.pinned (OpenSpec.upto quarantineReachSpec)

/-- 'kerbsidelaw25.QuarantineProves', WHERE WHAT IT READS IS OF BULK AT MOST 1048576: true; the input reads as it did. -/
def quarantineProvesUptoRow : OpenClaim := { program := "ytdbogogfeffjlaagreat", sum := "8c5bf2b13afac0b879a16f21db2fdb2a75f0b9b9f8fbd94e5504d21e9d616508", func := "kerbside/kerbsidelaw25.QuarantineProves", spec := "quarantineProves", unfollowed := true, recurses := true, apart := false, narrowed := true }
def QuarantineProvesUptoSaid : Prop := quarantineProvesUptoRow.holds Tryz.pinned (OpenSpec.upto quarantineProvesSpec)

end Rows
end Go.Proofs.YtdbogogfeffjlaaGreat
