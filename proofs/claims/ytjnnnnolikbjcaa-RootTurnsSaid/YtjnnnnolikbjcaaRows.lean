/-
  No cell of these rows narrows 'for every input' (looked for: loops, veiled, ifaces, maps, wideKeys, modest, calm, conditions, laid).
  DERIVED. THE GIVEN ROWS OF THIS SEAT. 6 by the template 'for every input the law returns true; each argument reads behind the call as it read before'; 0 by the template 'total and deterministic' (their statements: YtjnnnnolikbjcaaTotals.lean).
  GIVEN WITH THE SEED: the statements are not yours to turn. If you find one false, say at which input.
  Laid BY PROGRAM, IN A SANDBOX (cutbox-rows.mjs): the forced cells as the released guide's own fill.sh prints them over the translation 5145ecd642d99462… (all of the seat's roots in one cut). By AI agents, Wed Nov 11 2026. No macro, syntax, notation, axiom, sorry.
-/
import Derived.Test.YtjnnnnolikbjcaaChecked
import GoSem.Claim
import GoSem.ClaimJoined
import GoSem.ClaimMapViews
import Derived.JoinedTies
import Derived.KernelRfl
namespace Go.Proofs.Ytjnnnnolikbjcaa
/- THE CELL 'sum', in the pinned program and in every row, IS THE sha256 OF THE DUMP (.gsa) THAT YtjnnnnolikbjcaaProg.lean LOADS. Nothing in Lean hashes anything: it is a label: what it is worth is what the hold of that sum in a sandbox is worth. -/
noncomputable def Try.pinned : Pinned := { name := "ytjnnnnolikbjcaa", sum := "5145ecd642d9946268c08a64b4f711c3138f0f4aa0239733179bdc4b807efb3a", checked := Try.checked }
namespace Rows
def none {H : Type} : Left H := { results := [], args := [] }

/-- 'yearbooklaw23.RootTurns': WHATEVER THE INPUT: true; the input reads as it did. -/
def rootTurnsSpec : ChangeSpec := { name := "rootTurns", fn := fun _ => fun
  | [d1, d2, d3, d4, d5] => { results := [.lit (.bool true)], args := [d1, d2, d3, d4, d5] }
  | _ => none }
def rootTurnsRow : OpenClaim := { program := "ytjnnnnolikbjcaa", sum := "5145ecd642d9946268c08a64b4f711c3138f0f4aa0239733179bdc4b807efb3a", func := "yearbook/yearbooklaw23.RootTurns", spec := "rootTurns", unfollowed := true, recurses := true, apart := false }
def RootTurnsSaid : Prop := rootTurnsRow.holds Try.pinned (OpenSpec.ofChange rootTurnsSpec)

/-- ITS FALSE NEIGHBOUR: 'it returns false'. Refute it at one input. -/
def rootTurnsWrong : ChangeSpec := { name := "rootTurns", fn := fun _ => fun
  | [d1, d2, d3, d4, d5] => { results := [.lit (.bool false)], args := [d1, d2, d3, d4, d5] }
  | _ => none }
def RootTurnsWrongFalsely : Prop := rootTurnsRow.holds Try.pinned (OpenSpec.ofChange rootTurnsWrong)

/-- 'yearbooklaw23.RootFinds': WHATEVER THE INPUT: true; the input reads as it did. -/
def rootFindsSpec : ChangeSpec := { name := "rootFinds", fn := fun _ => fun
  | [d1, d2] => { results := [.lit (.bool true)], args := [d1, d2] }
  | _ => none }
def rootFindsRow : OpenClaim := { program := "ytjnnnnolikbjcaa", sum := "5145ecd642d9946268c08a64b4f711c3138f0f4aa0239733179bdc4b807efb3a", func := "yearbook/yearbooklaw23.RootFinds", spec := "rootFinds", unfollowed := true, recurses := true, apart := false }
def RootFindsSaid : Prop := rootFindsRow.holds Try.pinned (OpenSpec.ofChange rootFindsSpec)

/-- ITS FALSE NEIGHBOUR: 'it returns false'. Refute it at one input. -/
def rootFindsWrong : ChangeSpec := { name := "rootFinds", fn := fun _ => fun
  | [d1, d2] => { results := [.lit (.bool false)], args := [d1, d2] }
  | _ => none }
def RootFindsWrongFalsely : Prop := rootFindsRow.holds Try.pinned (OpenSpec.ofChange rootFindsWrong)

/-- 'yearbooklaw23.RootData': WHATEVER THE INPUT: true; the input reads as it did. -/
def rootDataSpec : ChangeSpec := { name := "rootData", fn := fun _ => fun
  | [d1, d2, d3, d4, d5] => { results := [.lit (.bool true)], args := [d1, d2, d3, d4, d5] }
  | _ => none }
def rootDataRow : OpenClaim := { program := "ytjnnnnolikbjcaa", sum := "5145ecd642d9946268c08a64b4f711c3138f0f4aa0239733179bdc4b807efb3a", func := "yearbook/yearbooklaw23.RootData", spec := "rootData", unfollowed := true, recurses := true, apart := false }
def RootDataSaid : Prop := rootDataRow.holds Try.pinned (OpenSpec.ofChange rootDataSpec)

/-- ITS FALSE NEIGHBOUR: 'it returns false'. Refute it at one input. -/
def rootDataWrong : ChangeSpec := { name := "rootData", fn := fun _ => fun
  | [d1, d2, d3, d4, d5] => { results := [.lit (.bool false)], args := [d1, d2, d3, d4, d5] }
  | _ => none }
def RootDataWrongFalsely : Prop := rootDataRow.holds Try.pinned (OpenSpec.ofChange rootDataWrong)

/-- 'yearbooklaw23.RootPuts': WHATEVER THE INPUT: true; the input reads as it did. -/
def rootPutsSpec : ChangeSpec := { name := "rootPuts", fn := fun _ => fun
  | [d1, d2] => { results := [.lit (.bool true)], args := [d1, d2] }
  | _ => none }
def rootPutsRow : OpenClaim := { program := "ytjnnnnolikbjcaa", sum := "5145ecd642d9946268c08a64b4f711c3138f0f4aa0239733179bdc4b807efb3a", func := "yearbook/yearbooklaw23.RootPuts", spec := "rootPuts", unfollowed := true, recurses := true, apart := false }
def RootPutsSaid : Prop := rootPutsRow.holds Try.pinned (OpenSpec.ofChange rootPutsSpec)

/-- ITS FALSE NEIGHBOUR: 'it returns false'. Refute it at one input. -/
def rootPutsWrong : ChangeSpec := { name := "rootPuts", fn := fun _ => fun
  | [d1, d2] => { results := [.lit (.bool false)], args := [d1, d2] }
  | _ => none }
def RootPutsWrongFalsely : Prop := rootPutsRow.holds Try.pinned (OpenSpec.ofChange rootPutsWrong)

/-- 'yearbooklaw23.RootBack': WHATEVER THE INPUT: true; the input reads as it did. -/
def rootBackSpec : ChangeSpec := { name := "rootBack", fn := fun _ => fun
  | [d1, d2, d3, d4] => { results := [.lit (.bool true)], args := [d1, d2, d3, d4] }
  | _ => none }
def rootBackRow : OpenClaim := { program := "ytjnnnnolikbjcaa", sum := "5145ecd642d9946268c08a64b4f711c3138f0f4aa0239733179bdc4b807efb3a", func := "yearbook/yearbooklaw23.RootBack", spec := "rootBack", unfollowed := true, recurses := true, apart := false }
def RootBackSaid : Prop := rootBackRow.holds Try.pinned (OpenSpec.ofChange rootBackSpec)

/-- ITS FALSE NEIGHBOUR: 'it returns false'. Refute it at one input. -/
def rootBackWrong : ChangeSpec := { name := "rootBack", fn := fun _ => fun
  | [d1, d2, d3, d4] => { results := [.lit (.bool false)], args := [d1, d2, d3, d4] }
  | _ => none }
def RootBackWrongFalsely : Prop := rootBackRow.holds Try.pinned (OpenSpec.ofChange rootBackWrong)

/-- 'yearbooklaw23.RootHolds': WHATEVER THE INPUT: true; the input reads as it did. -/
def rootHoldsSpec : ChangeSpec := { name := "rootHolds", fn := fun _ => fun
  | [d] => { results := [.lit (.bool true)], args := [d] }
  | _ => none }
def rootHoldsRow : OpenClaim := { program := "ytjnnnnolikbjcaa", sum := "5145ecd642d9946268c08a64b4f711c3138f0f4aa0239733179bdc4b807efb3a", func := "yearbook/yearbooklaw23.RootHolds", spec := "rootHolds", unfollowed := true, recurses := true, apart := false }
def RootHoldsSaid : Prop := rootHoldsRow.holds Try.pinned (OpenSpec.ofChange rootHoldsSpec)

/-- ITS FALSE NEIGHBOUR: 'it returns false'. Refute it at one input. -/
def rootHoldsWrong : ChangeSpec := { name := "rootHolds", fn := fun _ => fun
  | [d] => { results := [.lit (.bool false)], args := [d] }
  | _ => none }
def RootHoldsWrongFalsely : Prop := rootHoldsRow.holds Try.pinned (OpenSpec.ofChange rootHoldsWrong)

/- THE SECOND FORM. 'bulk': how many values and letters a reading holds, each counted each time it is reached (what is shared counts as often as it is met; a slice's spare places count too). A statement '..UptoSaid' is the law's where the arguments, and the package variables that the reading takes, are together of bulk at most 1048576: NARROWER than '..Said'. Prove '..Said' where nothing that the law and all that it calls make is longer than what came in: it says more and counts as full. Else prove '..UptoSaid'. A law counts once. -/
mutual
def uptoBulk {H : Type} : DataW H → Nat
  | .lit (.string bytes) => bytes.length + 1
  | .lit _ => 1
  | .nil => 1
  | .ptr d => uptoBulk d + 1
  | .slice elems spare => uptoBulkAll elems + uptoBulkAll spare + 1
  | .agg parts => uptoBulkAll parts + 1
  | .iface _ d => uptoBulk d + 1
  | .map entries => uptoBulkEntries entries + 1
  | .held _ => 1
def uptoBulkAll {H : Type} : List (DataW H) → Nat
  | [] => 0
  | d :: r => uptoBulk d + uptoBulkAll r
def uptoBulkEntries {H : Type} : List (Lit × DataW H) → Nat
  | [] => 0
  | x :: r => uptoBulkEntry x + uptoBulkEntries r
def uptoBulkEntry {H : Type} : Lit × DataW H → Nat
  | (.string bytes, d) => bytes.length + uptoBulk d + 1
  | (_, d) => uptoBulk d + 1
 end
def uptoSmall : (H : Type) → List (DataW H) → Bool := fun _ ds => decide (uptoBulkAll ds ≤ 1048576)
def OpenSpec.upto (s : _root_.Go.ChangeSpec) : _root_.Go.OpenSpec := { _root_.Go.OpenSpec.ofChange s with cond := some uptoSmall }

/-- 'yearbooklaw23.RootTurns', WHERE WHAT IT READS IS OF BULK AT MOST 1048576: true; the input reads as it did. -/
def rootTurnsUptoRow : OpenClaim := { program := "ytjnnnnolikbjcaa", sum := "5145ecd642d9946268c08a64b4f711c3138f0f4aa0239733179bdc4b807efb3a", func := "yearbook/yearbooklaw23.RootTurns", spec := "rootTurns", unfollowed := true, recurses := true, apart := false, narrowed := true }
def RootTurnsUptoSaid : Prop := rootTurnsUptoRow.holds Try.pinned (OpenSpec.upto rootTurnsSpec)

/-- 'yearbooklaw23.RootFinds', WHERE WHAT IT READS IS OF BULK AT MOST 1048576: true; the input reads as it did. -/
def rootFindsUptoRow : OpenClaim := { program := "ytjnnnnolikbjcaa", sum := "5145ecd642d9946268c08a64b4f711c3138f0f4aa0239733179bdc4b807efb3a", func := "yearbook/yearbooklaw23.RootFinds", spec := "rootFinds", unfollowed := true, recurses := true, apart := false, narrowed := true }
def RootFindsUptoSaid : Prop := rootFindsUptoRow.holds Try.pinned (OpenSpec.upto rootFindsSpec)

/-- 'yearbooklaw23.RootData', WHERE WHAT IT READS IS OF BULK AT MOST 1048576: true; the input reads as it did. -/
def rootDataUptoRow : OpenClaim := { program := "ytjnnnnolikbjcaa", sum := "5145ecd642d9946268c08a64b4f711c3138f0f4aa0239733179bdc4b807efb3a", func := "yearbook/yearbooklaw23.RootData", spec := "rootData", unfollowed := true, recurses := true, apart := false, narrowed := true }
def RootDataUptoSaid : Prop := rootDataUptoRow.holds Try.pinned (OpenSpec.upto rootDataSpec)

/-- 'yearbooklaw23.RootPuts', WHERE WHAT IT READS IS OF BULK AT MOST 1048576: true; the input reads as it did. -/
def rootPutsUptoRow : OpenClaim := { program := "ytjnnnnolikbjcaa", sum := "5145ecd642d9946268c08a64b4f711c3138f0f4aa0239733179bdc4b807efb3a", func := "yearbook/yearbooklaw23.RootPuts", spec := "rootPuts", unfollowed := true, recurses := true, apart := false, narrowed := true }
def RootPutsUptoSaid : Prop := rootPutsUptoRow.holds Try.pinned (OpenSpec.upto rootPutsSpec)

/-- 'yearbooklaw23.RootBack', WHERE WHAT IT READS IS OF BULK AT MOST 1048576: true; the input reads as it did. -/
def rootBackUptoRow : OpenClaim := { program := "ytjnnnnolikbjcaa", sum := "5145ecd642d9946268c08a64b4f711c3138f0f4aa0239733179bdc4b807efb3a", func := "yearbook/yearbooklaw23.RootBack", spec := "rootBack", unfollowed := true, recurses := true, apart := false, narrowed := true }
def RootBackUptoSaid : Prop := rootBackUptoRow.holds Try.pinned (OpenSpec.upto rootBackSpec)

/-- 'yearbooklaw23.RootHolds', WHERE WHAT IT READS IS OF BULK AT MOST 1048576: true; the input reads as it did. -/
def rootHoldsUptoRow : OpenClaim := { program := "ytjnnnnolikbjcaa", sum := "5145ecd642d9946268c08a64b4f711c3138f0f4aa0239733179bdc4b807efb3a", func := "yearbook/yearbooklaw23.RootHolds", spec := "rootHolds", unfollowed := true, recurses := true, apart := false, narrowed := true }
def RootHoldsUptoSaid : Prop := rootHoldsUptoRow.holds Try.pinned (OpenSpec.upto rootHoldsSpec)

end Rows
end Go.Proofs.Ytjnnnnolikbjcaa
