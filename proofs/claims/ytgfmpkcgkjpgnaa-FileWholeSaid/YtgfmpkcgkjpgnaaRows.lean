/-
  No cell of these rows narrows 'for every input' (looked for: loops, veiled, ifaces, maps, wideKeys, modest, calm, conditions, laid).
  DERIVED. THE GIVEN ROWS OF THIS SEAT. 6 by the template 'for every input the law returns true; each argument reads behind the call as it read before'; 0 by the template 'total and deterministic' (their statements: YtgfmpkcgkjpgnaaTotals.lean).
  GIVEN WITH THE SEED: the statements are not yours to turn. If you find one false, say at which input.
  Laid BY PROGRAM, IN A SANDBOX (cutbox-rows.mjs): the forced cells as the released guide's own fill.sh prints them over the translation 3b3306761f90d719… (all of the seat's roots in one cut). By AI agents, Wed Nov 11 2026. No macro, syntax, notation, axiom, sorry.
-/
import Derived.Test.YtgfmpkcgkjpgnaaChecked
import GoSem.Claim
import GoSem.ClaimJoined
import GoSem.ClaimMapViews
import Derived.JoinedTies
import Derived.KernelRfl
namespace Go.Proofs.Ytgfmpkcgkjpgnaa
/- THE CELL 'sum', in the pinned program and in every row, IS THE sha256 OF THE DUMP (.gsa) THAT YtgfmpkcgkjpgnaaProg.lean LOADS. Nothing in Lean hashes anything: it is a label: what it is worth is what the hold of that sum in a sandbox is worth. -/
noncomputable def Try.pinned : Pinned := { name := "ytgfmpkcgkjpgnaa", sum := "3b3306761f90d71948ebdea44643b7a44d662b9ffc619ed6ab6d624d79014bc4", checked := Try.checked }
namespace Rows
def none {H : Type} : Left H := { results := [], args := [] }

/-- 'yearbooklaw20.FileTakes': WHATEVER THE INPUT: true; the input reads as it did. -/
def fileTakesSpec : ChangeSpec := { name := "fileTakes", fn := fun _ => fun
  | [d1, d2, d3] => { results := [.lit (.bool true)], args := [d1, d2, d3] }
  | _ => none }
def fileTakesRow : OpenClaim := { program := "ytgfmpkcgkjpgnaa", sum := "3b3306761f90d71948ebdea44643b7a44d662b9ffc619ed6ab6d624d79014bc4", func := "yearbook/yearbooklaw20.FileTakes", spec := "fileTakes", unfollowed := true, recurses := true, apart := false }
def FileTakesSaid : Prop := fileTakesRow.holds Try.pinned (OpenSpec.ofChange fileTakesSpec)

/-- ITS FALSE NEIGHBOUR: 'it returns false'. Refute it at one input. -/
def fileTakesWrong : ChangeSpec := { name := "fileTakes", fn := fun _ => fun
  | [d1, d2, d3] => { results := [.lit (.bool false)], args := [d1, d2, d3] }
  | _ => none }
def FileTakesWrongFalsely : Prop := fileTakesRow.holds Try.pinned (OpenSpec.ofChange fileTakesWrong)

/-- 'yearbooklaw20.FilePlaces': WHATEVER THE INPUT: true; the input reads as it did. -/
def filePlacesSpec : ChangeSpec := { name := "filePlaces", fn := fun _ => fun
  | [d1, d2, d3] => { results := [.lit (.bool true)], args := [d1, d2, d3] }
  | _ => none }
def filePlacesRow : OpenClaim := { program := "ytgfmpkcgkjpgnaa", sum := "3b3306761f90d71948ebdea44643b7a44d662b9ffc619ed6ab6d624d79014bc4", func := "yearbook/yearbooklaw20.FilePlaces", spec := "filePlaces", unfollowed := true, recurses := true, apart := false }
def FilePlacesSaid : Prop := filePlacesRow.holds Try.pinned (OpenSpec.ofChange filePlacesSpec)

/-- ITS FALSE NEIGHBOUR: 'it returns false'. Refute it at one input. -/
def filePlacesWrong : ChangeSpec := { name := "filePlaces", fn := fun _ => fun
  | [d1, d2, d3] => { results := [.lit (.bool false)], args := [d1, d2, d3] }
  | _ => none }
def FilePlacesWrongFalsely : Prop := filePlacesRow.holds Try.pinned (OpenSpec.ofChange filePlacesWrong)

/-- 'yearbooklaw20.FilePuts': WHATEVER THE INPUT: true; the input reads as it did. -/
def filePutsSpec : ChangeSpec := { name := "filePuts", fn := fun _ => fun
  | [d1, d2, d3] => { results := [.lit (.bool true)], args := [d1, d2, d3] }
  | _ => none }
def filePutsRow : OpenClaim := { program := "ytgfmpkcgkjpgnaa", sum := "3b3306761f90d71948ebdea44643b7a44d662b9ffc619ed6ab6d624d79014bc4", func := "yearbook/yearbooklaw20.FilePuts", spec := "filePuts", unfollowed := true, recurses := true, apart := false }
def FilePutsSaid : Prop := filePutsRow.holds Try.pinned (OpenSpec.ofChange filePutsSpec)

/-- ITS FALSE NEIGHBOUR: 'it returns false'. Refute it at one input. -/
def filePutsWrong : ChangeSpec := { name := "filePuts", fn := fun _ => fun
  | [d1, d2, d3] => { results := [.lit (.bool false)], args := [d1, d2, d3] }
  | _ => none }
def FilePutsWrongFalsely : Prop := filePutsRow.holds Try.pinned (OpenSpec.ofChange filePutsWrong)

/-- 'yearbooklaw20.FileGets': WHATEVER THE INPUT: true; the input reads as it did. -/
def fileGetsSpec : ChangeSpec := { name := "fileGets", fn := fun _ => fun
  | [d1, d2, d3] => { results := [.lit (.bool true)], args := [d1, d2, d3] }
  | _ => none }
def fileGetsRow : OpenClaim := { program := "ytgfmpkcgkjpgnaa", sum := "3b3306761f90d71948ebdea44643b7a44d662b9ffc619ed6ab6d624d79014bc4", func := "yearbook/yearbooklaw20.FileGets", spec := "fileGets", unfollowed := true, recurses := true, apart := false }
def FileGetsSaid : Prop := fileGetsRow.holds Try.pinned (OpenSpec.ofChange fileGetsSpec)

/-- ITS FALSE NEIGHBOUR: 'it returns false'. Refute it at one input. -/
def fileGetsWrong : ChangeSpec := { name := "fileGets", fn := fun _ => fun
  | [d1, d2, d3] => { results := [.lit (.bool false)], args := [d1, d2, d3] }
  | _ => none }
def FileGetsWrongFalsely : Prop := fileGetsRow.holds Try.pinned (OpenSpec.ofChange fileGetsWrong)

/-- 'yearbooklaw20.FileBack': WHATEVER THE INPUT: true; the input reads as it did. -/
def fileBackSpec : ChangeSpec := { name := "fileBack", fn := fun _ => fun
  | [d1, d2] => { results := [.lit (.bool true)], args := [d1, d2] }
  | _ => none }
def fileBackRow : OpenClaim := { program := "ytgfmpkcgkjpgnaa", sum := "3b3306761f90d71948ebdea44643b7a44d662b9ffc619ed6ab6d624d79014bc4", func := "yearbook/yearbooklaw20.FileBack", spec := "fileBack", unfollowed := true, recurses := true, apart := false }
def FileBackSaid : Prop := fileBackRow.holds Try.pinned (OpenSpec.ofChange fileBackSpec)

/-- ITS FALSE NEIGHBOUR: 'it returns false'. Refute it at one input. -/
def fileBackWrong : ChangeSpec := { name := "fileBack", fn := fun _ => fun
  | [d1, d2] => { results := [.lit (.bool false)], args := [d1, d2] }
  | _ => none }
def FileBackWrongFalsely : Prop := fileBackRow.holds Try.pinned (OpenSpec.ofChange fileBackWrong)

/-- 'yearbooklaw20.FileWhole': WHATEVER THE INPUT: true; the input reads as it did. -/
def fileWholeSpec : ChangeSpec := { name := "fileWhole", fn := fun _ => fun
  | [d1, d2, d3] => { results := [.lit (.bool true)], args := [d1, d2, d3] }
  | _ => none }
def fileWholeRow : OpenClaim := { program := "ytgfmpkcgkjpgnaa", sum := "3b3306761f90d71948ebdea44643b7a44d662b9ffc619ed6ab6d624d79014bc4", func := "yearbook/yearbooklaw20.FileWhole", spec := "fileWhole", unfollowed := true, recurses := true, apart := false }
def FileWholeSaid : Prop := fileWholeRow.holds Try.pinned (OpenSpec.ofChange fileWholeSpec)

/-- ITS FALSE NEIGHBOUR: 'it returns false'. Refute it at one input. -/
def fileWholeWrong : ChangeSpec := { name := "fileWhole", fn := fun _ => fun
  | [d1, d2, d3] => { results := [.lit (.bool false)], args := [d1, d2, d3] }
  | _ => none }
def FileWholeWrongFalsely : Prop := fileWholeRow.holds Try.pinned (OpenSpec.ofChange fileWholeWrong)

/- THE SECOND FORM. 'bulk': how many values and letters a reading holds, each counted each time it is reached (what is shared counts as often as it is met; a slice's spare places count too). A statement '..UptoSaid' is the law's where the arguments, and the package variables that the reading takes, are together of bulk at most 1048576: NARROWER than '..Said'. Prove '..Said' where nothing that the law and all that it calls make is longer than what came in: it says more and counts as full. Else prove '..UptoSaid'. A law counts once. -/
mutual
def uptoBulk {H : Type} : DataW H → Nat
  | .lit (.string bytes) => bytes.length + 1
  | .lit _ => 1
  | .nil => 1
  | .ptr d => uptoBulk d + 1
  | .slice elems spare => uptoBulkAll elems + uptoBulkAll spare + 1
  | .agg parts => uptoBulkAll parts + 1
  | .iface _ d => uptoBulk d + 1
  | .map entries => uptoBulkEntries entries + 1
  | .held _ => 1
def uptoBulkAll {H : Type} : List (DataW H) → Nat
  | [] => 0
  | d :: r => uptoBulk d + uptoBulkAll r
def uptoBulkEntries {H : Type} : List (Lit × DataW H) → Nat
  | [] => 0
  | x :: r => uptoBulkEntry x + uptoBulkEntries r
def uptoBulkEntry {H : Type} : Lit × DataW H → Nat
  | (.string bytes, d) => bytes.length + uptoBulk d + 1
  | (_, d) => uptoBulk d + 1
 end
def uptoSmall : (H : Type) → List (DataW H) → Bool := fun _ ds => decide (uptoBulkAll ds ≤ 1048576)
def OpenSpec.upto (s : _root_.Go.ChangeSpec) : _root_.Go.OpenSpec := { _root_.Go.OpenSpec.ofChange s with cond := some uptoSmall }

/-- 'yearbooklaw20.FileTakes', WHERE WHAT IT READS IS OF BULK AT MOST 1048576: true; the input reads as it did. -/
def fileTakesUptoRow : OpenClaim := { program := "ytgfmpkcgkjpgnaa", sum := "3b3306761f90d71948ebdea44643b7a44d662b9ffc619ed6ab6d624d79014bc4", func := "yearbook/yearbooklaw20.FileTakes", spec := "fileTakes", unfollowed := true, recurses := true, apart := false, narrowed := true }
def FileTakesUptoSaid : Prop := fileTakesUptoRow.holds Try.pinned (OpenSpec.upto fileTakesSpec)

/-- 'yearbooklaw20.FilePlaces', WHERE WHAT IT READS IS OF BULK AT MOST 1048576: true; the input reads as it did. -/
def filePlacesUptoRow : OpenClaim := { program := "ytgfmpkcgkjpgnaa", sum := "3b3306761f90d71948ebdea44643b7a44d662b9ffc619ed6ab6d624d79014bc4", func := "yearbook/yearbooklaw20.FilePlaces", spec := "filePlaces", unfollowed := true, recurses := true, apart := false, narrowed := true }
def FilePlacesUptoSaid : Prop := filePlacesUptoRow.holds Try.pinned (OpenSpec.upto filePlacesSpec)

/-- 'yearbooklaw20.FilePuts', WHERE WHAT IT READS IS OF BULK AT MOST 1048576: true; the input reads as it did. -/
def filePutsUptoRow : OpenClaim := { program := "ytgfmpkcgkjpgnaa", sum := "3b3306761f90d71948ebdea44643b7a44d662b9ffc619ed6ab6d624d79014bc4", func := "yearbook/yearbooklaw20.FilePuts", spec := "filePuts", unfollowed := true, recurses := true, apart := false, narrowed := true }
def FilePutsUptoSaid : Prop := filePutsUptoRow.holds Try.pinned (OpenSpec.upto filePutsSpec)

/-- 'yearbooklaw20.FileGets', WHERE WHAT IT READS IS OF BULK AT MOST 1048576: true; the input reads as it did. -/
def fileGetsUptoRow : OpenClaim := { program := "ytgfmpkcgkjpgnaa", sum := "3b3306761f90d71948ebdea44643b7a44d662b9ffc619ed6ab6d624d79014bc4", func := "yearbook/yearbooklaw20.FileGets", spec := "fileGets", unfollowed := true, recurses := true, apart := false, narrowed := true }
def FileGetsUptoSaid : Prop := fileGetsUptoRow.holds Try.pinned (OpenSpec.upto fileGetsSpec)

/-- 'yearbooklaw20.FileBack', WHERE WHAT IT READS IS OF BULK AT MOST 1048576: true; the input reads as it did. -/
def fileBackUptoRow : OpenClaim := { program := "ytgfmpkcgkjpgnaa", sum := "3b3306761f90d71948ebdea44643b7a44d662b9ffc619ed6ab6d624d79014bc4", func := "yearbook/yearbooklaw20.FileBack", spec := "fileBack", unfollowed := true, recurses := true, apart := false, narrowed := true }
def FileBackUptoSaid : Prop := fileBackUptoRow.holds Try.pinned (OpenSpec.upto fileBackSpec)

/-- 'yearbooklaw20.FileWhole', WHERE WHAT IT READS IS OF BULK AT MOST 1048576: true; the input reads as it did. -/
def fileWholeUptoRow : OpenClaim := { program := "ytgfmpkcgkjpgnaa", sum := "3b3306761f90d71948ebdea44643b7a44d662b9ffc619ed6ab6d624d79014bc4", func := "yearbook/yearbooklaw20.FileWhole", spec := "fileWhole", unfollowed := true, recurses := true, apart := false, narrowed := true }
def FileWholeUptoSaid : Prop := fileWholeUptoRow.holds Try.pinned (OpenSpec.upto fileWholeSpec)

end Rows
end Go.Proofs.Ytgfmpkcgkjpgnaa
