/-
  No cell of these rows narrows 'for every input' (looked for: loops, veiled, ifaces, maps, wideKeys, modest, calm, conditions, laid).
  DERIVED. THE GIVEN ROWS OF THIS SEAT. 8 by the template 'for every input the law returns true; each argument reads behind the call as it read before'; 0 by the template 'total and deterministic' (their statements: YthbljhiabgkabaaTotals.lean).
  GIVEN WITH THE SEED: the statements are not yours to turn. If you find one false, say at which input.
  Laid BY PROGRAM, IN A SANDBOX (cutbox-rows.mjs): the forced cells as the released guide's own fill.sh prints them over the translation 335550337caafcc7… (all of the seat's roots in one cut). By AI agents, Wed Nov 11 2026. No macro, syntax, notation, axiom, sorry.
-/
import Derived.Test.YthbljhiabgkabaaChecked
import GoSem.Claim
import GoSem.ClaimJoined
import GoSem.ClaimMapViews
import Derived.JoinedTies
import Derived.KernelRfl
namespace Go.Proofs.Ythbljhiabgkabaa
/- THE CELL 'sum', in the pinned program and in every row, IS THE sha256 OF THE DUMP (.gsa) THAT YthbljhiabgkabaaProg.lean LOADS. Nothing in Lean hashes anything: it is a label: what it is worth is what the hold of that sum in a sandbox is worth. -/
noncomputable def Try.pinned : Pinned := { name := "ythbljhiabgkabaa", sum := "335550337caafcc70eff9f3f3d6df6b691d7ab71d040d28dac9590ce60f07b0c", checked := Try.checked }
namespace Rows
def none {H : Type} : Left H := { results := [], args := [] }

/-- 'yearbooklaw15.CrcSums': WHATEVER THE INPUT: true; the input reads as it did. -/
def crcSumsSpec : ChangeSpec := { name := "crcSums", fn := fun _ => fun
  | [d1, d2] => { results := [.lit (.bool true)], args := [d1, d2] }
  | _ => none }
def crcSumsRow : OpenClaim := { program := "ythbljhiabgkabaa", sum := "335550337caafcc70eff9f3f3d6df6b691d7ab71d040d28dac9590ce60f07b0c", func := "yearbook/yearbooklaw15.CrcSums", spec := "crcSums", unfollowed := true, recurses := true, apart := false }
def CrcSumsSaid : Prop := crcSumsRow.holds Try.pinned (OpenSpec.ofChange crcSumsSpec)

/-- ITS FALSE NEIGHBOUR: 'it returns false'. Refute it at one input. -/
def crcSumsWrong : ChangeSpec := { name := "crcSums", fn := fun _ => fun
  | [d1, d2] => { results := [.lit (.bool false)], args := [d1, d2] }
  | _ => none }
def CrcSumsWrongFalsely : Prop := crcSumsRow.holds Try.pinned (OpenSpec.ofChange crcSumsWrong)

/-- 'yearbooklaw15.CrcBurst': WHATEVER THE INPUT: true; the input reads as it did. -/
def crcBurstSpec : ChangeSpec := { name := "crcBurst", fn := fun _ => fun
  | [d1, d2, d3] => { results := [.lit (.bool true)], args := [d1, d2, d3] }
  | _ => none }
def crcBurstRow : OpenClaim := { program := "ythbljhiabgkabaa", sum := "335550337caafcc70eff9f3f3d6df6b691d7ab71d040d28dac9590ce60f07b0c", func := "yearbook/yearbooklaw15.CrcBurst", spec := "crcBurst", unfollowed := true, recurses := true, apart := false }
def CrcBurstSaid : Prop := crcBurstRow.holds Try.pinned (OpenSpec.ofChange crcBurstSpec)

/-- ITS FALSE NEIGHBOUR: 'it returns false'. Refute it at one input. -/
def crcBurstWrong : ChangeSpec := { name := "crcBurst", fn := fun _ => fun
  | [d1, d2, d3] => { results := [.lit (.bool false)], args := [d1, d2, d3] }
  | _ => none }
def CrcBurstWrongFalsely : Prop := crcBurstRow.holds Try.pinned (OpenSpec.ofChange crcBurstWrong)

/-- 'yearbooklaw15.CrcFar': WHATEVER THE INPUT: true; the input reads as it did. -/
def crcFarSpec : ChangeSpec := { name := "crcFar", fn := fun _ => fun
  | [d1, d2, d3] => { results := [.lit (.bool true)], args := [d1, d2, d3] }
  | _ => none }
def crcFarRow : OpenClaim := { program := "ythbljhiabgkabaa", sum := "335550337caafcc70eff9f3f3d6df6b691d7ab71d040d28dac9590ce60f07b0c", func := "yearbook/yearbooklaw15.CrcFar", spec := "crcFar", unfollowed := true, recurses := true, apart := false }
def CrcFarSaid : Prop := crcFarRow.holds Try.pinned (OpenSpec.ofChange crcFarSpec)

/-- ITS FALSE NEIGHBOUR: 'it returns false'. Refute it at one input. -/
def crcFarWrong : ChangeSpec := { name := "crcFar", fn := fun _ => fun
  | [d1, d2, d3] => { results := [.lit (.bool false)], args := [d1, d2, d3] }
  | _ => none }
def CrcFarWrongFalsely : Prop := crcFarRow.holds Try.pinned (OpenSpec.ofChange crcFarWrong)

/-- 'yearbooklaw15.CrcMixed': WHATEVER THE INPUT: true; the input reads as it did. -/
def crcMixedSpec : ChangeSpec := { name := "crcMixed", fn := fun _ => fun
  | [d1, d2, d3] => { results := [.lit (.bool true)], args := [d1, d2, d3] }
  | _ => none }
def crcMixedRow : OpenClaim := { program := "ythbljhiabgkabaa", sum := "335550337caafcc70eff9f3f3d6df6b691d7ab71d040d28dac9590ce60f07b0c", func := "yearbook/yearbooklaw15.CrcMixed", spec := "crcMixed", unfollowed := true, recurses := true, apart := false }
def CrcMixedSaid : Prop := crcMixedRow.holds Try.pinned (OpenSpec.ofChange crcMixedSpec)

/-- ITS FALSE NEIGHBOUR: 'it returns false'. Refute it at one input. -/
def crcMixedWrong : ChangeSpec := { name := "crcMixed", fn := fun _ => fun
  | [d1, d2, d3] => { results := [.lit (.bool false)], args := [d1, d2, d3] }
  | _ => none }
def CrcMixedWrongFalsely : Prop := crcMixedRow.holds Try.pinned (OpenSpec.ofChange crcMixedWrong)

/-- 'yearbooklaw15.CrcOther': WHATEVER THE INPUT: true; the input reads as it did. -/
def crcOtherSpec : ChangeSpec := { name := "crcOther", fn := fun _ => fun
  | [d1, d2, d3] => { results := [.lit (.bool true)], args := [d1, d2, d3] }
  | _ => none }
def crcOtherRow : OpenClaim := { program := "ythbljhiabgkabaa", sum := "335550337caafcc70eff9f3f3d6df6b691d7ab71d040d28dac9590ce60f07b0c", func := "yearbook/yearbooklaw15.CrcOther", spec := "crcOther", unfollowed := true, recurses := true, apart := false }
def CrcOtherSaid : Prop := crcOtherRow.holds Try.pinned (OpenSpec.ofChange crcOtherSpec)

/-- ITS FALSE NEIGHBOUR: 'it returns false'. Refute it at one input. -/
def crcOtherWrong : ChangeSpec := { name := "crcOther", fn := fun _ => fun
  | [d1, d2, d3] => { results := [.lit (.bool false)], args := [d1, d2, d3] }
  | _ => none }
def CrcOtherWrongFalsely : Prop := crcOtherRow.holds Try.pinned (OpenSpec.ofChange crcOtherWrong)

/-- 'yearbooklaw15.CrcZeros': WHATEVER THE INPUT: true; the input reads as it did. -/
def crcZerosSpec : ChangeSpec := { name := "crcZeros", fn := fun _ => fun
  | [d1, d2, d3, d4] => { results := [.lit (.bool true)], args := [d1, d2, d3, d4] }
  | _ => none }
def crcZerosRow : OpenClaim := { program := "ythbljhiabgkabaa", sum := "335550337caafcc70eff9f3f3d6df6b691d7ab71d040d28dac9590ce60f07b0c", func := "yearbook/yearbooklaw15.CrcZeros", spec := "crcZeros", unfollowed := true, recurses := true, apart := false }
def CrcZerosSaid : Prop := crcZerosRow.holds Try.pinned (OpenSpec.ofChange crcZerosSpec)

/-- ITS FALSE NEIGHBOUR: 'it returns false'. Refute it at one input. -/
def crcZerosWrong : ChangeSpec := { name := "crcZeros", fn := fun _ => fun
  | [d1, d2, d3, d4] => { results := [.lit (.bool false)], args := [d1, d2, d3, d4] }
  | _ => none }
def CrcZerosWrongFalsely : Prop := crcZerosRow.holds Try.pinned (OpenSpec.ofChange crcZerosWrong)

/-- 'yearbooklaw15.CrcJoins': WHATEVER THE INPUT: true; the input reads as it did. -/
def crcJoinsSpec : ChangeSpec := { name := "crcJoins", fn := fun _ => fun
  | [d1, d2] => { results := [.lit (.bool true)], args := [d1, d2] }
  | _ => none }
def crcJoinsRow : OpenClaim := { program := "ythbljhiabgkabaa", sum := "335550337caafcc70eff9f3f3d6df6b691d7ab71d040d28dac9590ce60f07b0c", func := "yearbook/yearbooklaw15.CrcJoins", spec := "crcJoins", unfollowed := true, recurses := true, apart := false }
def CrcJoinsSaid : Prop := crcJoinsRow.holds Try.pinned (OpenSpec.ofChange crcJoinsSpec)

/-- ITS FALSE NEIGHBOUR: 'it returns false'. Refute it at one input. -/
def crcJoinsWrong : ChangeSpec := { name := "crcJoins", fn := fun _ => fun
  | [d1, d2] => { results := [.lit (.bool false)], args := [d1, d2] }
  | _ => none }
def CrcJoinsWrongFalsely : Prop := crcJoinsRow.holds Try.pinned (OpenSpec.ofChange crcJoinsWrong)

/-- 'yearbooklaw15.CrcHolds': WHATEVER THE INPUT: true; the input reads as it did. -/
def crcHoldsSpec : ChangeSpec := { name := "crcHolds", fn := fun _ => fun
  | [d] => { results := [.lit (.bool true)], args := [d] }
  | _ => none }
def crcHoldsRow : OpenClaim := { program := "ythbljhiabgkabaa", sum := "335550337caafcc70eff9f3f3d6df6b691d7ab71d040d28dac9590ce60f07b0c", func := "yearbook/yearbooklaw15.CrcHolds", spec := "crcHolds", unfollowed := true, recurses := true, apart := false }
def CrcHoldsSaid : Prop := crcHoldsRow.holds Try.pinned (OpenSpec.ofChange crcHoldsSpec)

/-- ITS FALSE NEIGHBOUR: 'it returns false'. Refute it at one input. -/
def crcHoldsWrong : ChangeSpec := { name := "crcHolds", fn := fun _ => fun
  | [d] => { results := [.lit (.bool false)], args := [d] }
  | _ => none }
def CrcHoldsWrongFalsely : Prop := crcHoldsRow.holds Try.pinned (OpenSpec.ofChange crcHoldsWrong)

/- THE SECOND FORM. 'bulk': how many values and letters a reading holds, each counted each time it is reached (what is shared counts as often as it is met; a slice's spare places count too). A statement '..UptoSaid' is the law's where the arguments, and the package variables that the reading takes, are together of bulk at most 1048576: NARROWER than '..Said'. Prove '..Said' where nothing that the law and all that it calls make is longer than what came in: it says more and counts as full. Else prove '..UptoSaid'. A law counts once. -/
mutual
def uptoBulk {H : Type} : DataW H → Nat
  | .lit (.string bytes) => bytes.length + 1
  | .lit _ => 1
  | .nil => 1
  | .ptr d => uptoBulk d + 1
  | .slice elems spare => uptoBulkAll elems + uptoBulkAll spare + 1
  | .agg parts => uptoBulkAll parts + 1
  | .iface _ d => uptoBulk d + 1
  | .map entries => uptoBulkEntries entries + 1
  | .held _ => 1
def uptoBulkAll {H : Type} : List (DataW H) → Nat
  | [] => 0
  | d :: r => uptoBulk d + uptoBulkAll r
def uptoBulkEntries {H : Type} : List (Lit × DataW H) → Nat
  | [] => 0
  | x :: r => uptoBulkEntry x + uptoBulkEntries r
def uptoBulkEntry {H : Type} : Lit × DataW H → Nat
  | (.string bytes, d) => bytes.length + uptoBulk d + 1
  | (_, d) => uptoBulk d + 1
 end
def uptoSmall : (H : Type) → List (DataW H) → Bool := fun _ ds => decide (uptoBulkAll ds ≤ 1048576)
def OpenSpec.upto (s : _root_.Go.ChangeSpec) : _root_.Go.OpenSpec := { _root_.Go.OpenSpec.ofChange s with cond := some uptoSmall }

/-- 'yearbooklaw15.CrcSums', WHERE WHAT IT READS IS OF BULK AT MOST 1048576: true; the input reads as it did. -/
def crcSumsUptoRow : OpenClaim := { program := "ythbljhiabgkabaa", sum := "335550337caafcc70eff9f3f3d6df6b691d7ab71d040d28dac9590ce60f07b0c", func := "yearbook/yearbooklaw15.CrcSums", spec := "crcSums", unfollowed := true, recurses := true, apart := false, narrowed := true }
def CrcSumsUptoSaid : Prop := crcSumsUptoRow.holds Try.pinned (OpenSpec.upto crcSumsSpec)

/-- 'yearbooklaw15.CrcBurst', WHERE WHAT IT READS IS OF BULK AT MOST 1048576: true; the input reads as it did. -/
def crcBurstUptoRow : OpenClaim := { program := "ythbljhiabgkabaa", sum := "335550337caafcc70eff9f3f3d6df6b691d7ab71d040d28dac9590ce60f07b0c", func := "yearbook/yearbooklaw15.CrcBurst", spec := "crcBurst", unfollowed := true, recurses := true, apart := false, narrowed := true }
def CrcBurstUptoSaid : Prop := crcBurstUptoRow.holds Try.pinned (OpenSpec.upto crcBurstSpec)

/-- 'yearbooklaw15.CrcFar', WHERE WHAT IT READS IS OF BULK AT MOST 1048576: true; the input reads as it did. -/
def crcFarUptoRow : OpenClaim := { program := "ythbljhiabgkabaa", sum := "335550337caafcc70eff9f3f3d6df6b691d7ab71d040d28dac9590ce60f07b0c", func := "yearbook/yearbooklaw15.CrcFar", spec := "crcFar", unfollowed := true, recurses := true, apart := false, narrowed := true }
def CrcFarUptoSaid : Prop := crcFarUptoRow.holds Try.pinned (OpenSpec.upto crcFarSpec)

/-- 'yearbooklaw15.CrcMixed', WHERE WHAT IT READS IS OF BULK AT MOST 1048576: true; the input reads as it did. -/
def crcMixedUptoRow : OpenClaim := { program := "ythbljhiabgkabaa", sum := "335550337caafcc70eff9f3f3d6df6b691d7ab71d040d28dac9590ce60f07b0c", func := "yearbook/yearbooklaw15.CrcMixed", spec := "crcMixed", unfollowed := true, recurses := true, apart := false, narrowed := true }
def CrcMixedUptoSaid : Prop := crcMixedUptoRow.holds Try.pinned (OpenSpec.upto crcMixedSpec)

/-- 'yearbooklaw15.CrcOther', WHERE WHAT IT READS IS OF BULK AT MOST 1048576: true; the input reads as it did. -/
def crcOtherUptoRow : OpenClaim := { program := "ythbljhiabgkabaa", sum := "335550337caafcc70eff9f3f3d6df6b691d7ab71d040d28dac9590ce60f07b0c", func := "yearbook/yearbooklaw15.CrcOther", spec := "crcOther", unfollowed := true, recurses := true, apart := false, narrowed := true }
def CrcOtherUptoSaid : Prop := crcOtherUptoRow.holds Try.pinned (OpenSpec.upto crcOtherSpec)

/-- 'yearbooklaw15.CrcZeros', WHERE WHAT IT READS IS OF BULK AT MOST 1048576: true; the input reads as it did. -/
def crcZerosUptoRow : OpenClaim := { program := "ythbljhiabgkabaa", sum := "335550337caafcc70eff9f3f3d6df6b691d7ab71d040d28dac9590ce60f07b0c", func := "yearbook/yearbooklaw15.CrcZeros", spec := "crcZeros", unfollowed := true, recurses := true, apart := false, narrowed := true }
def CrcZerosUptoSaid : Prop := crcZerosUptoRow.holds Try.pinned (OpenSpec.upto crcZerosSpec)

/-- 'yearbooklaw15.CrcJoins', WHERE WHAT IT READS IS OF BULK AT MOST 1048576: true; the input reads as it did. -/
def crcJoinsUptoRow : OpenClaim := { program := "ythbljhiabgkabaa", sum := "335550337caafcc70eff9f3f3d6df6b691d7ab71d040d28dac9590ce60f07b0c", func := "yearbook/yearbooklaw15.CrcJoins", spec := "crcJoins", unfollowed := true, recurses := true, apart := false, narrowed := true }
def CrcJoinsUptoSaid : Prop := crcJoinsUptoRow.holds Try.pinned (OpenSpec.upto crcJoinsSpec)

/-- 'yearbooklaw15.CrcHolds', WHERE WHAT IT READS IS OF BULK AT MOST 1048576: true; the input reads as it did. -/
def crcHoldsUptoRow : OpenClaim := { program := "ythbljhiabgkabaa", sum := "335550337caafcc70eff9f3f3d6df6b691d7ab71d040d28dac9590ce60f07b0c", func := "yearbook/yearbooklaw15.CrcHolds", spec := "crcHolds", unfollowed := true, recurses := true, apart := false, narrowed := true }
def CrcHoldsUptoSaid : Prop := crcHoldsUptoRow.holds Try.pinned (OpenSpec.upto crcHoldsSpec)

end Rows
end Go.Proofs.Ythbljhiabgkabaa
