/-
  No cell of these rows narrows 'for every input' (looked for: loops, veiled, ifaces, maps, wideKeys, modest, calm, conditions, laid).
  DERIVED. THE GIVEN ROWS OF THIS SEAT. 6 by the template 'for every input the law returns true; each argument reads behind the call as it read before'; 0 by the template 'total and deterministic' (their statements: YtlddjcilbpcciaaTotals.lean).
  GIVEN WITH THE SEED: the statements are not yours to turn. If you find one false, say at which input.
  Laid BY PROGRAM, IN A SANDBOX (cutbox-rows.mjs): the forced cells as the released guide's own fill.sh prints them over the translation 0832972c7cf26c5f… (all of the seat's roots in one cut). By AI agents, Wed Nov 11 2026. No macro, syntax, notation, axiom, sorry.
-/
import Derived.Test.YtlddjcilbpcciaaChecked
import GoSem.Claim
import GoSem.ClaimJoined
import GoSem.ClaimMapViews
import Derived.JoinedTies
import Derived.KernelRfl
namespace Go.Proofs.Ytlddjcilbpcciaa
/- THE CELL 'sum', in the pinned program and in every row, IS THE sha256 OF THE DUMP (.gsa) THAT YtlddjcilbpcciaaProg.lean LOADS. Nothing in Lean hashes anything: it is a label: what it is worth is what the hold of that sum in a sandbox is worth. -/
noncomputable def Try.pinned : Pinned := { name := "ytlddjcilbpcciaa", sum := "0832972c7cf26c5f31f54926bc92c886ea1cb1c37a06045ae64ed5e3aa2b08b0", checked := Try.checked }
namespace Rows
def none {H : Type} : Left H := { results := [], args := [] }

/-- 'yearbooklaw19.LogNeeds': WHATEVER THE INPUT: true; the input reads as it did. -/
def logNeedsSpec : ChangeSpec := { name := "logNeeds", fn := fun _ => fun
  | [d] => { results := [.lit (.bool true)], args := [d] }
  | _ => none }
def logNeedsRow : OpenClaim := { program := "ytlddjcilbpcciaa", sum := "0832972c7cf26c5f31f54926bc92c886ea1cb1c37a06045ae64ed5e3aa2b08b0", func := "yearbook/yearbooklaw19.LogNeeds", spec := "logNeeds", unfollowed := true, recurses := true, apart := false }
def LogNeedsSaid : Prop := logNeedsRow.holds Try.pinned (OpenSpec.ofChange logNeedsSpec)

/-- ITS FALSE NEIGHBOUR: 'it returns false'. Refute it at one input. -/
def logNeedsWrong : ChangeSpec := { name := "logNeeds", fn := fun _ => fun
  | [d] => { results := [.lit (.bool false)], args := [d] }
  | _ => none }
def LogNeedsWrongFalsely : Prop := logNeedsRow.holds Try.pinned (OpenSpec.ofChange logNeedsWrong)

/-- 'yearbooklaw19.LogEnds': WHATEVER THE INPUT: true; the input reads as it did. -/
def logEndsSpec : ChangeSpec := { name := "logEnds", fn := fun _ => fun
  | [d1, d2] => { results := [.lit (.bool true)], args := [d1, d2] }
  | _ => none }
def logEndsRow : OpenClaim := { program := "ytlddjcilbpcciaa", sum := "0832972c7cf26c5f31f54926bc92c886ea1cb1c37a06045ae64ed5e3aa2b08b0", func := "yearbook/yearbooklaw19.LogEnds", spec := "logEnds", unfollowed := true, recurses := true, apart := false }
def LogEndsSaid : Prop := logEndsRow.holds Try.pinned (OpenSpec.ofChange logEndsSpec)

/-- ITS FALSE NEIGHBOUR: 'it returns false'. Refute it at one input. -/
def logEndsWrong : ChangeSpec := { name := "logEnds", fn := fun _ => fun
  | [d1, d2] => { results := [.lit (.bool false)], args := [d1, d2] }
  | _ => none }
def LogEndsWrongFalsely : Prop := logEndsRow.holds Try.pinned (OpenSpec.ofChange logEndsWrong)

/-- 'yearbooklaw19.LogReplays': WHATEVER THE INPUT: true; the input reads as it did. -/
def logReplaysSpec : ChangeSpec := { name := "logReplays", fn := fun _ => fun
  | [d1, d2] => { results := [.lit (.bool true)], args := [d1, d2] }
  | _ => none }
def logReplaysRow : OpenClaim := { program := "ytlddjcilbpcciaa", sum := "0832972c7cf26c5f31f54926bc92c886ea1cb1c37a06045ae64ed5e3aa2b08b0", func := "yearbook/yearbooklaw19.LogReplays", spec := "logReplays", unfollowed := true, recurses := true, apart := false }
def LogReplaysSaid : Prop := logReplaysRow.holds Try.pinned (OpenSpec.ofChange logReplaysSpec)

/-- ITS FALSE NEIGHBOUR: 'it returns false'. Refute it at one input. -/
def logReplaysWrong : ChangeSpec := { name := "logReplays", fn := fun _ => fun
  | [d1, d2] => { results := [.lit (.bool false)], args := [d1, d2] }
  | _ => none }
def LogReplaysWrongFalsely : Prop := logReplaysRow.holds Try.pinned (OpenSpec.ofChange logReplaysWrong)

/-- 'yearbooklaw19.LogPuts': WHATEVER THE INPUT: true; the input reads as it did. -/
def logPutsSpec : ChangeSpec := { name := "logPuts", fn := fun _ => fun
  | [d1, d2, d3, d4] => { results := [.lit (.bool true)], args := [d1, d2, d3, d4] }
  | _ => none }
def logPutsRow : OpenClaim := { program := "ytlddjcilbpcciaa", sum := "0832972c7cf26c5f31f54926bc92c886ea1cb1c37a06045ae64ed5e3aa2b08b0", func := "yearbook/yearbooklaw19.LogPuts", spec := "logPuts", unfollowed := true, recurses := true, apart := false }
def LogPutsSaid : Prop := logPutsRow.holds Try.pinned (OpenSpec.ofChange logPutsSpec)

/-- ITS FALSE NEIGHBOUR: 'it returns false'. Refute it at one input. -/
def logPutsWrong : ChangeSpec := { name := "logPuts", fn := fun _ => fun
  | [d1, d2, d3, d4] => { results := [.lit (.bool false)], args := [d1, d2, d3, d4] }
  | _ => none }
def LogPutsWrongFalsely : Prop := logPutsRow.holds Try.pinned (OpenSpec.ofChange logPutsWrong)

/-- 'yearbooklaw19.LogBack': WHATEVER THE INPUT: true; the input reads as it did. -/
def logBackSpec : ChangeSpec := { name := "logBack", fn := fun _ => fun
  | [d1, d2] => { results := [.lit (.bool true)], args := [d1, d2] }
  | _ => none }
def logBackRow : OpenClaim := { program := "ytlddjcilbpcciaa", sum := "0832972c7cf26c5f31f54926bc92c886ea1cb1c37a06045ae64ed5e3aa2b08b0", func := "yearbook/yearbooklaw19.LogBack", spec := "logBack", unfollowed := true, recurses := true, apart := false }
def LogBackSaid : Prop := logBackRow.holds Try.pinned (OpenSpec.ofChange logBackSpec)

/-- ITS FALSE NEIGHBOUR: 'it returns false'. Refute it at one input. -/
def logBackWrong : ChangeSpec := { name := "logBack", fn := fun _ => fun
  | [d1, d2] => { results := [.lit (.bool false)], args := [d1, d2] }
  | _ => none }
def LogBackWrongFalsely : Prop := logBackRow.holds Try.pinned (OpenSpec.ofChange logBackWrong)

/-- 'yearbooklaw19.LogCrash': WHATEVER THE INPUT: true; the input reads as it did. -/
def logCrashSpec : ChangeSpec := { name := "logCrash", fn := fun _ => fun
  | [d1, d2, d3, d4, d5, d6] => { results := [.lit (.bool true)], args := [d1, d2, d3, d4, d5, d6] }
  | _ => none }
def logCrashRow : OpenClaim := { program := "ytlddjcilbpcciaa", sum := "0832972c7cf26c5f31f54926bc92c886ea1cb1c37a06045ae64ed5e3aa2b08b0", func := "yearbook/yearbooklaw19.LogCrash", spec := "logCrash", unfollowed := true, recurses := true, apart := false }
def LogCrashSaid : Prop := logCrashRow.holds Try.pinned (OpenSpec.ofChange logCrashSpec)

/-- ITS FALSE NEIGHBOUR: 'it returns false'. Refute it at one input. -/
def logCrashWrong : ChangeSpec := { name := "logCrash", fn := fun _ => fun
  | [d1, d2, d3, d4, d5, d6] => { results := [.lit (.bool false)], args := [d1, d2, d3, d4, d5, d6] }
  | _ => none }
def LogCrashWrongFalsely : Prop := logCrashRow.holds Try.pinned (OpenSpec.ofChange logCrashWrong)

/- THE SECOND FORM. 'bulk': how many values and letters a reading holds, each counted each time it is reached (what is shared counts as often as it is met; a slice's spare places count too). A statement '..UptoSaid' is the law's where the arguments, and the package variables that the reading takes, are together of bulk at most 1048576: NARROWER than '..Said'. Prove '..Said' where nothing that the law and all that it calls make is longer than what came in: it says more and counts as full. Else prove '..UptoSaid'. A law counts once. -/
mutual
def uptoBulk {H : Type} : DataW H → Nat
  | .lit (.string bytes) => bytes.length + 1
  | .lit _ => 1
  | .nil => 1
  | .ptr d => uptoBulk d + 1
  | .slice elems spare => uptoBulkAll elems + uptoBulkAll spare + 1
  | .agg parts => uptoBulkAll parts + 1
  | .iface _ d => uptoBulk d + 1
  | .map entries => uptoBulkEntries entries + 1
  | .held _ => 1
def uptoBulkAll {H : Type} : List (DataW H) → Nat
  | [] => 0
  | d :: r => uptoBulk d + uptoBulkAll r
def uptoBulkEntries {H : Type} : List (Lit × DataW H) → Nat
  | [] => 0
  | x :: r => uptoBulkEntry x + uptoBulkEntries r
def uptoBulkEntry {H : Type} : Lit × DataW H → Nat
  | (.string bytes, d) => bytes.length + uptoBulk d + 1
  | (_, d) => uptoBulk d + 1
 end
def uptoSmall : (H : Type) → List (DataW H) → Bool := fun _ ds => decide (uptoBulkAll ds ≤ 1048576)
def OpenSpec.upto (s : _root_.Go.ChangeSpec) : _root_.Go.OpenSpec := { _root_.Go.OpenSpec.ofChange s with cond := some uptoSmall }

/-- 'yearbooklaw19.LogNeeds', WHERE WHAT IT READS IS OF BULK AT MOST 1048576: true; the input reads as it did. -/
def logNeedsUptoRow : OpenClaim := { program := "ytlddjcilbpcciaa", sum := "0832972c7cf26c5f31f54926bc92c886ea1cb1c37a06045ae64ed5e3aa2b08b0", func := "yearbook/yearbooklaw19.LogNeeds", spec := "logNeeds", unfollowed := true, recurses := true, apart := false, narrowed := true }
def LogNeedsUptoSaid : Prop := logNeedsUptoRow.holds Try.pinned (OpenSpec.upto logNeedsSpec)

/-- 'yearbooklaw19.LogEnds', WHERE WHAT IT READS IS OF BULK AT MOST 1048576: true; the input reads as it did. -/
def logEndsUptoRow : OpenClaim := { program := "ytlddjcilbpcciaa", sum := "0832972c7cf26c5f31f54926bc92c886ea1cb1c37a06045ae64ed5e3aa2b08b0", func := "yearbook/yearbooklaw19.LogEnds", spec := "logEnds", unfollowed := true, recurses := true, apart := false, narrowed := true }
def LogEndsUptoSaid : Prop := logEndsUptoRow.holds Try.pinned (OpenSpec.upto logEndsSpec)

/-- 'yearbooklaw19.LogReplays', WHERE WHAT IT READS IS OF BULK AT MOST 1048576: true; the input reads as it did. -/
def logReplaysUptoRow : OpenClaim := { program := "ytlddjcilbpcciaa", sum := "0832972c7cf26c5f31f54926bc92c886ea1cb1c37a06045ae64ed5e3aa2b08b0", func := "yearbook/yearbooklaw19.LogReplays", spec := "logReplays", unfollowed := true, recurses := true, apart := false, narrowed := true }
def LogReplaysUptoSaid : Prop := logReplaysUptoRow.holds Try.pinned (OpenSpec.upto logReplaysSpec)

/-- 'yearbooklaw19.LogPuts', WHERE WHAT IT READS IS OF BULK AT MOST 1048576: true; the input reads as it did. -/
def logPutsUptoRow : OpenClaim := { program := "ytlddjcilbpcciaa", sum := "0832972c7cf26c5f31f54926bc92c886ea1cb1c37a06045ae64ed5e3aa2b08b0", func := "yearbook/yearbooklaw19.LogPuts", spec := "logPuts", unfollowed := true, recurses := true, apart := false, narrowed := true }
def LogPutsUptoSaid : Prop := logPutsUptoRow.holds Try.pinned (OpenSpec.upto logPutsSpec)

/-- 'yearbooklaw19.LogBack', WHERE WHAT IT READS IS OF BULK AT MOST 1048576: true; the input reads as it did. -/
def logBackUptoRow : OpenClaim := { program := "ytlddjcilbpcciaa", sum := "0832972c7cf26c5f31f54926bc92c886ea1cb1c37a06045ae64ed5e3aa2b08b0", func := "yearbook/yearbooklaw19.LogBack", spec := "logBack", unfollowed := true, recurses := true, apart := false, narrowed := true }
def LogBackUptoSaid : Prop := logBackUptoRow.holds Try.pinned (OpenSpec.upto logBackSpec)

/-- 'yearbooklaw19.LogCrash', WHERE WHAT IT READS IS OF BULK AT MOST 1048576: true; the input reads as it did. -/
def logCrashUptoRow : OpenClaim := { program := "ytlddjcilbpcciaa", sum := "0832972c7cf26c5f31f54926bc92c886ea1cb1c37a06045ae64ed5e3aa2b08b0", func := "yearbook/yearbooklaw19.LogCrash", spec := "logCrash", unfollowed := true, recurses := true, apart := false, narrowed := true }
def LogCrashUptoSaid : Prop := logCrashUptoRow.holds Try.pinned (OpenSpec.upto logCrashSpec)

end Rows
end Go.Proofs.Ytlddjcilbpcciaa
