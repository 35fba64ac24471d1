/-
  No cell of these rows narrows 'for every input' (looked for: loops, veiled, ifaces, maps, wideKeys, modest, calm, conditions, laid).
  DERIVED. THE GIVEN ROWS OF THIS SEAT. 6 by the template 'for every input the law returns true; each argument reads behind the call as it read before'; 0 by the template 'total and deterministic' (their statements: YtapdigcpaebjiaaTotals.lean).
  GIVEN WITH THE SEED: the statements are not yours to turn. If you find one false, say at which input.
  Laid BY PROGRAM, IN A SANDBOX (cutbox-rows.mjs): the forced cells as the released guide's own fill.sh prints them over the translation 8d15482e7a115c0f… (all of the seat's roots in one cut). By AI agents, Wed Nov 11 2026. No macro, syntax, notation, axiom, sorry.
-/
import Derived.Test.YtapdigcpaebjiaaChecked
import GoSem.Claim
import GoSem.ClaimJoined
import GoSem.ClaimMapViews
import Derived.JoinedTies
import Derived.KernelRfl
namespace Go.Proofs.Ytapdigcpaebjiaa
/- THE CELL 'sum', in the pinned program and in every row, IS THE sha256 OF THE DUMP (.gsa) THAT YtapdigcpaebjiaaProg.lean LOADS. Nothing in Lean hashes anything: it is a label: what it is worth is what the hold of that sum in a sandbox is worth. -/
noncomputable def Try.pinned : Pinned := { name := "ytapdigcpaebjiaa", sum := "8d15482e7a115c0fdc3df5b094e7745585818e404debbb2da0ba7dd025f24c0a", checked := Try.checked }
namespace Rows
def none {H : Type} : Left H := { results := [], args := [] }

/-- 'yearbooklaw16.DeviceDoes': WHATEVER THE INPUT: true; the input reads as it did. -/
def deviceDoesSpec : ChangeSpec := { name := "deviceDoes", fn := fun _ => fun
  | [d1, d2] => { results := [.lit (.bool true)], args := [d1, d2] }
  | _ => none }
def deviceDoesRow : OpenClaim := { program := "ytapdigcpaebjiaa", sum := "8d15482e7a115c0fdc3df5b094e7745585818e404debbb2da0ba7dd025f24c0a", func := "yearbook/yearbooklaw16.DeviceDoes", spec := "deviceDoes", unfollowed := true, recurses := true, apart := false }
def DeviceDoesSaid : Prop := deviceDoesRow.holds Try.pinned (OpenSpec.ofChange deviceDoesSpec)

/-- ITS FALSE NEIGHBOUR: 'it returns false'. Refute it at one input. -/
def deviceDoesWrong : ChangeSpec := { name := "deviceDoes", fn := fun _ => fun
  | [d1, d2] => { results := [.lit (.bool false)], args := [d1, d2] }
  | _ => none }
def DeviceDoesWrongFalsely : Prop := deviceDoesRow.holds Try.pinned (OpenSpec.ofChange deviceDoesWrong)

/-- 'yearbooklaw16.DeviceRuns': WHATEVER THE INPUT: true; the input reads as it did. -/
def deviceRunsSpec : ChangeSpec := { name := "deviceRuns", fn := fun _ => fun
  | [d1, d2] => { results := [.lit (.bool true)], args := [d1, d2] }
  | _ => none }
def deviceRunsRow : OpenClaim := { program := "ytapdigcpaebjiaa", sum := "8d15482e7a115c0fdc3df5b094e7745585818e404debbb2da0ba7dd025f24c0a", func := "yearbook/yearbooklaw16.DeviceRuns", spec := "deviceRuns", unfollowed := true, recurses := true, apart := false }
def DeviceRunsSaid : Prop := deviceRunsRow.holds Try.pinned (OpenSpec.ofChange deviceRunsSpec)

/-- ITS FALSE NEIGHBOUR: 'it returns false'. Refute it at one input. -/
def deviceRunsWrong : ChangeSpec := { name := "deviceRuns", fn := fun _ => fun
  | [d1, d2] => { results := [.lit (.bool false)], args := [d1, d2] }
  | _ => none }
def DeviceRunsWrongFalsely : Prop := deviceRunsRow.holds Try.pinned (OpenSpec.ofChange deviceRunsWrong)

/-- 'yearbooklaw16.DeviceKeeps': WHATEVER THE INPUT: true; the input reads as it did. -/
def deviceKeepsSpec : ChangeSpec := { name := "deviceKeeps", fn := fun _ => fun
  | [d] => { results := [.lit (.bool true)], args := [d] }
  | _ => none }
def deviceKeepsRow : OpenClaim := { program := "ytapdigcpaebjiaa", sum := "8d15482e7a115c0fdc3df5b094e7745585818e404debbb2da0ba7dd025f24c0a", func := "yearbook/yearbooklaw16.DeviceKeeps", spec := "deviceKeeps", unfollowed := true, recurses := true, apart := false }
def DeviceKeepsSaid : Prop := deviceKeepsRow.holds Try.pinned (OpenSpec.ofChange deviceKeepsSpec)

/-- ITS FALSE NEIGHBOUR: 'it returns false'. Refute it at one input. -/
def deviceKeepsWrong : ChangeSpec := { name := "deviceKeeps", fn := fun _ => fun
  | [d] => { results := [.lit (.bool false)], args := [d] }
  | _ => none }
def DeviceKeepsWrongFalsely : Prop := deviceKeepsRow.holds Try.pinned (OpenSpec.ofChange deviceKeepsWrong)

/-- 'yearbooklaw16.DeviceTells': WHATEVER THE INPUT: true; the input reads as it did. -/
def deviceTellsSpec : ChangeSpec := { name := "deviceTells", fn := fun _ => fun
  | [d1, d2, d3] => { results := [.lit (.bool true)], args := [d1, d2, d3] }
  | _ => none }
def deviceTellsRow : OpenClaim := { program := "ytapdigcpaebjiaa", sum := "8d15482e7a115c0fdc3df5b094e7745585818e404debbb2da0ba7dd025f24c0a", func := "yearbook/yearbooklaw16.DeviceTells", spec := "deviceTells", unfollowed := true, recurses := true, apart := false }
def DeviceTellsSaid : Prop := deviceTellsRow.holds Try.pinned (OpenSpec.ofChange deviceTellsSpec)

/-- ITS FALSE NEIGHBOUR: 'it returns false'. Refute it at one input. -/
def deviceTellsWrong : ChangeSpec := { name := "deviceTells", fn := fun _ => fun
  | [d1, d2, d3] => { results := [.lit (.bool false)], args := [d1, d2, d3] }
  | _ => none }
def DeviceTellsWrongFalsely : Prop := deviceTellsRow.holds Try.pinned (OpenSpec.ofChange deviceTellsWrong)

/-- 'yearbooklaw16.DeviceWhole': WHATEVER THE INPUT: true; the input reads as it did. -/
def deviceWholeSpec : ChangeSpec := { name := "deviceWhole", fn := fun _ => fun
  | [d1, d2] => { results := [.lit (.bool true)], args := [d1, d2] }
  | _ => none }
def deviceWholeRow : OpenClaim := { program := "ytapdigcpaebjiaa", sum := "8d15482e7a115c0fdc3df5b094e7745585818e404debbb2da0ba7dd025f24c0a", func := "yearbook/yearbooklaw16.DeviceWhole", spec := "deviceWhole", unfollowed := true, recurses := true, apart := false }
def DeviceWholeSaid : Prop := deviceWholeRow.holds Try.pinned (OpenSpec.ofChange deviceWholeSpec)

/-- ITS FALSE NEIGHBOUR: 'it returns false'. Refute it at one input. -/
def deviceWholeWrong : ChangeSpec := { name := "deviceWhole", fn := fun _ => fun
  | [d1, d2] => { results := [.lit (.bool false)], args := [d1, d2] }
  | _ => none }
def DeviceWholeWrongFalsely : Prop := deviceWholeRow.holds Try.pinned (OpenSpec.ofChange deviceWholeWrong)

/-- 'yearbooklaw16.DeviceFuse': WHATEVER THE INPUT: true; the input reads as it did. -/
def deviceFuseSpec : ChangeSpec := { name := "deviceFuse", fn := fun _ => fun
  | [d1, d2, d3] => { results := [.lit (.bool true)], args := [d1, d2, d3] }
  | _ => none }
def deviceFuseRow : OpenClaim := { program := "ytapdigcpaebjiaa", sum := "8d15482e7a115c0fdc3df5b094e7745585818e404debbb2da0ba7dd025f24c0a", func := "yearbook/yearbooklaw16.DeviceFuse", spec := "deviceFuse", unfollowed := true, recurses := true, apart := false }
def DeviceFuseSaid : Prop := deviceFuseRow.holds Try.pinned (OpenSpec.ofChange deviceFuseSpec)

/-- ITS FALSE NEIGHBOUR: 'it returns false'. Refute it at one input. -/
def deviceFuseWrong : ChangeSpec := { name := "deviceFuse", fn := fun _ => fun
  | [d1, d2, d3] => { results := [.lit (.bool false)], args := [d1, d2, d3] }
  | _ => none }
def DeviceFuseWrongFalsely : Prop := deviceFuseRow.holds Try.pinned (OpenSpec.ofChange deviceFuseWrong)

/- THE SECOND FORM. 'bulk': how many values and letters a reading holds, each counted each time it is reached (what is shared counts as often as it is met; a slice's spare places count too). A statement '..UptoSaid' is the law's where the arguments, and the package variables that the reading takes, are together of bulk at most 1048576: NARROWER than '..Said'. Prove '..Said' where nothing that the law and all that it calls make is longer than what came in: it says more and counts as full. Else prove '..UptoSaid'. A law counts once. -/
mutual
def uptoBulk {H : Type} : DataW H → Nat
  | .lit (.string bytes) => bytes.length + 1
  | .lit _ => 1
  | .nil => 1
  | .ptr d => uptoBulk d + 1
  | .slice elems spare => uptoBulkAll elems + uptoBulkAll spare + 1
  | .agg parts => uptoBulkAll parts + 1
  | .iface _ d => uptoBulk d + 1
  | .map entries => uptoBulkEntries entries + 1
  | .held _ => 1
def uptoBulkAll {H : Type} : List (DataW H) → Nat
  | [] => 0
  | d :: r => uptoBulk d + uptoBulkAll r
def uptoBulkEntries {H : Type} : List (Lit × DataW H) → Nat
  | [] => 0
  | x :: r => uptoBulkEntry x + uptoBulkEntries r
def uptoBulkEntry {H : Type} : Lit × DataW H → Nat
  | (.string bytes, d) => bytes.length + uptoBulk d + 1
  | (_, d) => uptoBulk d + 1
 end
def uptoSmall : (H : Type) → List (DataW H) → Bool := fun _ ds => decide (uptoBulkAll ds ≤ 1048576)
def OpenSpec.upto (s : _root_.Go.ChangeSpec) : _root_.Go.OpenSpec := { _root_.Go.OpenSpec.ofChange s with cond := some uptoSmall }

/-- 'yearbooklaw16.DeviceDoes', WHERE WHAT IT READS IS OF BULK AT MOST 1048576: true; the input reads as it did. -/
def deviceDoesUptoRow : OpenClaim := { program := "ytapdigcpaebjiaa", sum := "8d15482e7a115c0fdc3df5b094e7745585818e404debbb2da0ba7dd025f24c0a", func := "yearbook/yearbooklaw16.DeviceDoes", spec := "deviceDoes", unfollowed := true, recurses := true, apart := false, narrowed := true }
def DeviceDoesUptoSaid : Prop := deviceDoesUptoRow.holds Try.pinned (OpenSpec.upto deviceDoesSpec)

/-- 'yearbooklaw16.DeviceRuns', WHERE WHAT IT READS IS OF BULK AT MOST 1048576: true; the input reads as it did. -/
def deviceRunsUptoRow : OpenClaim := { program := "ytapdigcpaebjiaa", sum := "8d15482e7a115c0fdc3df5b094e7745585818e404debbb2da0ba7dd025f24c0a", func := "yearbook/yearbooklaw16.DeviceRuns", spec := "deviceRuns", unfollowed := true, recurses := true, apart := false, narrowed := true }
def DeviceRunsUptoSaid : Prop := deviceRunsUptoRow.holds Try.pinned (OpenSpec.upto deviceRunsSpec)

/-- 'yearbooklaw16.DeviceKeeps', WHERE WHAT IT READS IS OF BULK AT MOST 1048576: true; the input reads as it did. -/
def deviceKeepsUptoRow : OpenClaim := { program := "ytapdigcpaebjiaa", sum := "8d15482e7a115c0fdc3df5b094e7745585818e404debbb2da0ba7dd025f24c0a", func := "yearbook/yearbooklaw16.DeviceKeeps", spec := "deviceKeeps", unfollowed := true, recurses := true, apart := false, narrowed := true }
def DeviceKeepsUptoSaid : Prop := deviceKeepsUptoRow.holds Try.pinned (OpenSpec.upto deviceKeepsSpec)

/-- 'yearbooklaw16.DeviceTells', WHERE WHAT IT READS IS OF BULK AT MOST 1048576: true; the input reads as it did. -/
def deviceTellsUptoRow : OpenClaim := { program := "ytapdigcpaebjiaa", sum := "8d15482e7a115c0fdc3df5b094e7745585818e404debbb2da0ba7dd025f24c0a", func := "yearbook/yearbooklaw16.DeviceTells", spec := "deviceTells", unfollowed := true, recurses := true, apart := false, narrowed := true }
def DeviceTellsUptoSaid : Prop := deviceTellsUptoRow.holds Try.pinned (OpenSpec.upto deviceTellsSpec)

/-- 'yearbooklaw16.DeviceWhole', WHERE WHAT IT READS IS OF BULK AT MOST 1048576: true; the input reads as it did. -/
def deviceWholeUptoRow : OpenClaim := { program := "ytapdigcpaebjiaa", sum := "8d15482e7a115c0fdc3df5b094e7745585818e404debbb2da0ba7dd025f24c0a", func := "yearbook/yearbooklaw16.DeviceWhole", spec := "deviceWhole", unfollowed := true, recurses := true, apart := false, narrowed := true }
def DeviceWholeUptoSaid : Prop := deviceWholeUptoRow.holds Try.pinned (OpenSpec.upto deviceWholeSpec)

/-- 'yearbooklaw16.DeviceFuse', WHERE WHAT IT READS IS OF BULK AT MOST 1048576: true; the input reads as it did. -/
def deviceFuseUptoRow : OpenClaim := { program := "ytapdigcpaebjiaa", sum := "8d15482e7a115c0fdc3df5b094e7745585818e404debbb2da0ba7dd025f24c0a", func := "yearbook/yearbooklaw16.DeviceFuse", spec := "deviceFuse", unfollowed := true, recurses := true, apart := false, narrowed := true }
def DeviceFuseUptoSaid : Prop := deviceFuseUptoRow.holds Try.pinned (OpenSpec.upto deviceFuseSpec)

end Rows
end Go.Proofs.Ytapdigcpaebjiaa
