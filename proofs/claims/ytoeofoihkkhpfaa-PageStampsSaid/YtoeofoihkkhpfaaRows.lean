/-
  No cell of these rows narrows 'for every input' (looked for: loops, veiled, ifaces, maps, wideKeys, modest, calm, conditions, laid).
  DERIVED. THE GIVEN ROWS OF THIS SEAT. 7 by the template 'for every input the law returns true; each argument reads behind the call as it read before'; 0 by the template 'total and deterministic' (their statements: YtoeofoihkkhpfaaTotals.lean).
  GIVEN WITH THE SEED: the statements are not yours to turn. If you find one false, say at which input.
  Laid BY PROGRAM, IN A SANDBOX (cutbox-rows.mjs): the forced cells as the released guide's own fill.sh prints them over the translation 56596b9bb3227410… (all of the seat's roots in one cut). By AI agents, Wed Nov 11 2026. No macro, syntax, notation, axiom, sorry.
-/
import Derived.Test.YtoeofoihkkhpfaaChecked
import GoSem.Claim
import GoSem.ClaimJoined
import GoSem.ClaimMapViews
import Derived.JoinedTies
import Derived.KernelRfl
namespace Go.Proofs.Ytoeofoihkkhpfaa
/- THE CELL 'sum', in the pinned program and in every row, IS THE sha256 OF THE DUMP (.gsa) THAT YtoeofoihkkhpfaaProg.lean LOADS. Nothing in Lean hashes anything: it is a label: what it is worth is what the hold of that sum in a sandbox is worth. -/
noncomputable def Try.pinned : Pinned := { name := "ytoeofoihkkhpfaa", sum := "56596b9bb322741064fe47f59e084dc245c6e35ab1a53f7e223cef6e53763a0d", checked := Try.checked }
namespace Rows
def none {H : Type} : Left H := { results := [], args := [] }

/-- 'yearbooklaw17.PageLays': WHATEVER THE INPUT: true; the input reads as it did. -/
def pageLaysSpec : ChangeSpec := { name := "pageLays", fn := fun _ => fun
  | [d1, d2, d3] => { results := [.lit (.bool true)], args := [d1, d2, d3] }
  | _ => none }
def pageLaysRow : OpenClaim := { program := "ytoeofoihkkhpfaa", sum := "56596b9bb322741064fe47f59e084dc245c6e35ab1a53f7e223cef6e53763a0d", func := "yearbook/yearbooklaw17.PageLays", spec := "pageLays", unfollowed := true, recurses := true, apart := false }
def PageLaysSaid : Prop := pageLaysRow.holds Try.pinned (OpenSpec.ofChange pageLaysSpec)

/-- ITS FALSE NEIGHBOUR: 'it returns false'. Refute it at one input. -/
def pageLaysWrong : ChangeSpec := { name := "pageLays", fn := fun _ => fun
  | [d1, d2, d3] => { results := [.lit (.bool false)], args := [d1, d2, d3] }
  | _ => none }
def PageLaysWrongFalsely : Prop := pageLaysRow.holds Try.pinned (OpenSpec.ofChange pageLaysWrong)

/-- 'yearbooklaw17.PageReads': WHATEVER THE INPUT: true; the input reads as it did. -/
def pageReadsSpec : ChangeSpec := { name := "pageReads", fn := fun _ => fun
  | [d] => { results := [.lit (.bool true)], args := [d] }
  | _ => none }
def pageReadsRow : OpenClaim := { program := "ytoeofoihkkhpfaa", sum := "56596b9bb322741064fe47f59e084dc245c6e35ab1a53f7e223cef6e53763a0d", func := "yearbook/yearbooklaw17.PageReads", spec := "pageReads", unfollowed := true, recurses := true, apart := false }
def PageReadsSaid : Prop := pageReadsRow.holds Try.pinned (OpenSpec.ofChange pageReadsSpec)

/-- ITS FALSE NEIGHBOUR: 'it returns false'. Refute it at one input. -/
def pageReadsWrong : ChangeSpec := { name := "pageReads", fn := fun _ => fun
  | [d] => { results := [.lit (.bool false)], args := [d] }
  | _ => none }
def PageReadsWrongFalsely : Prop := pageReadsRow.holds Try.pinned (OpenSpec.ofChange pageReadsWrong)

/-- 'yearbooklaw17.PageBack': WHATEVER THE INPUT: true; the input reads as it did. -/
def pageBackSpec : ChangeSpec := { name := "pageBack", fn := fun _ => fun
  | [d1, d2, d3] => { results := [.lit (.bool true)], args := [d1, d2, d3] }
  | _ => none }
def pageBackRow : OpenClaim := { program := "ytoeofoihkkhpfaa", sum := "56596b9bb322741064fe47f59e084dc245c6e35ab1a53f7e223cef6e53763a0d", func := "yearbook/yearbooklaw17.PageBack", spec := "pageBack", unfollowed := true, recurses := true, apart := false }
def PageBackSaid : Prop := pageBackRow.holds Try.pinned (OpenSpec.ofChange pageBackSpec)

/-- ITS FALSE NEIGHBOUR: 'it returns false'. Refute it at one input. -/
def pageBackWrong : ChangeSpec := { name := "pageBack", fn := fun _ => fun
  | [d1, d2, d3] => { results := [.lit (.bool false)], args := [d1, d2, d3] }
  | _ => none }
def PageBackWrongFalsely : Prop := pageBackRow.holds Try.pinned (OpenSpec.ofChange pageBackWrong)

/-- 'yearbooklaw17.PageDamaged': WHATEVER THE INPUT: true; the input reads as it did. -/
def pageDamagedSpec : ChangeSpec := { name := "pageDamaged", fn := fun _ => fun
  | [d1, d2, d3, d4] => { results := [.lit (.bool true)], args := [d1, d2, d3, d4] }
  | _ => none }
def pageDamagedRow : OpenClaim := { program := "ytoeofoihkkhpfaa", sum := "56596b9bb322741064fe47f59e084dc245c6e35ab1a53f7e223cef6e53763a0d", func := "yearbook/yearbooklaw17.PageDamaged", spec := "pageDamaged", unfollowed := true, recurses := true, apart := false }
def PageDamagedSaid : Prop := pageDamagedRow.holds Try.pinned (OpenSpec.ofChange pageDamagedSpec)

/-- ITS FALSE NEIGHBOUR: 'it returns false'. Refute it at one input. -/
def pageDamagedWrong : ChangeSpec := { name := "pageDamaged", fn := fun _ => fun
  | [d1, d2, d3, d4] => { results := [.lit (.bool false)], args := [d1, d2, d3, d4] }
  | _ => none }
def PageDamagedWrongFalsely : Prop := pageDamagedRow.holds Try.pinned (OpenSpec.ofChange pageDamagedWrong)

/-- 'yearbooklaw17.PageMixes': WHATEVER THE INPUT: true; the input reads as it did. -/
def pageMixesSpec : ChangeSpec := { name := "pageMixes", fn := fun _ => fun
  | [d1, d2, d3, d4] => { results := [.lit (.bool true)], args := [d1, d2, d3, d4] }
  | _ => none }
def pageMixesRow : OpenClaim := { program := "ytoeofoihkkhpfaa", sum := "56596b9bb322741064fe47f59e084dc245c6e35ab1a53f7e223cef6e53763a0d", func := "yearbook/yearbooklaw17.PageMixes", spec := "pageMixes", unfollowed := true, recurses := true, apart := false }
def PageMixesSaid : Prop := pageMixesRow.holds Try.pinned (OpenSpec.ofChange pageMixesSpec)

/-- ITS FALSE NEIGHBOUR: 'it returns false'. Refute it at one input. -/
def pageMixesWrong : ChangeSpec := { name := "pageMixes", fn := fun _ => fun
  | [d1, d2, d3, d4] => { results := [.lit (.bool false)], args := [d1, d2, d3, d4] }
  | _ => none }
def PageMixesWrongFalsely : Prop := pageMixesRow.holds Try.pinned (OpenSpec.ofChange pageMixesWrong)

/-- 'yearbooklaw17.PageTorn': WHATEVER THE INPUT: true; the input reads as it did. -/
def pageTornSpec : ChangeSpec := { name := "pageTorn", fn := fun _ => fun
  | [d1, d2, d3, d4] => { results := [.lit (.bool true)], args := [d1, d2, d3, d4] }
  | _ => none }
def pageTornRow : OpenClaim := { program := "ytoeofoihkkhpfaa", sum := "56596b9bb322741064fe47f59e084dc245c6e35ab1a53f7e223cef6e53763a0d", func := "yearbook/yearbooklaw17.PageTorn", spec := "pageTorn", unfollowed := true, recurses := true, apart := false }
def PageTornSaid : Prop := pageTornRow.holds Try.pinned (OpenSpec.ofChange pageTornSpec)

/-- ITS FALSE NEIGHBOUR: 'it returns false'. Refute it at one input. -/
def pageTornWrong : ChangeSpec := { name := "pageTorn", fn := fun _ => fun
  | [d1, d2, d3, d4] => { results := [.lit (.bool false)], args := [d1, d2, d3, d4] }
  | _ => none }
def PageTornWrongFalsely : Prop := pageTornRow.holds Try.pinned (OpenSpec.ofChange pageTornWrong)

/-- 'yearbooklaw17.PageStamps': WHATEVER THE INPUT: true; the input reads as it did. -/
def pageStampsSpec : ChangeSpec := { name := "pageStamps", fn := fun _ => fun
  | [d] => { results := [.lit (.bool true)], args := [d] }
  | _ => none }
def pageStampsRow : OpenClaim := { program := "ytoeofoihkkhpfaa", sum := "56596b9bb322741064fe47f59e084dc245c6e35ab1a53f7e223cef6e53763a0d", func := "yearbook/yearbooklaw17.PageStamps", spec := "pageStamps", unfollowed := true, recurses := true, apart := false }
def PageStampsSaid : Prop := pageStampsRow.holds Try.pinned (OpenSpec.ofChange pageStampsSpec)

/-- ITS FALSE NEIGHBOUR: 'it returns false'. Refute it at one input. -/
def pageStampsWrong : ChangeSpec := { name := "pageStamps", fn := fun _ => fun
  | [d] => { results := [.lit (.bool false)], args := [d] }
  | _ => none }
def PageStampsWrongFalsely : Prop := pageStampsRow.holds Try.pinned (OpenSpec.ofChange pageStampsWrong)

/- THE SECOND FORM. 'bulk': how many values and letters a reading holds, each counted each time it is reached (what is shared counts as often as it is met; a slice's spare places count too). A statement '..UptoSaid' is the law's where the arguments, and the package variables that the reading takes, are together of bulk at most 1048576: NARROWER than '..Said'. Prove '..Said' where nothing that the law and all that it calls make is longer than what came in: it says more and counts as full. Else prove '..UptoSaid'. A law counts once. -/
mutual
def uptoBulk {H : Type} : DataW H → Nat
  | .lit (.string bytes) => bytes.length + 1
  | .lit _ => 1
  | .nil => 1
  | .ptr d => uptoBulk d + 1
  | .slice elems spare => uptoBulkAll elems + uptoBulkAll spare + 1
  | .agg parts => uptoBulkAll parts + 1
  | .iface _ d => uptoBulk d + 1
  | .map entries => uptoBulkEntries entries + 1
  | .held _ => 1
def uptoBulkAll {H : Type} : List (DataW H) → Nat
  | [] => 0
  | d :: r => uptoBulk d + uptoBulkAll r
def uptoBulkEntries {H : Type} : List (Lit × DataW H) → Nat
  | [] => 0
  | x :: r => uptoBulkEntry x + uptoBulkEntries r
def uptoBulkEntry {H : Type} : Lit × DataW H → Nat
  | (.string bytes, d) => bytes.length + uptoBulk d + 1
  | (_, d) => uptoBulk d + 1
 end
def uptoSmall : (H : Type) → List (DataW H) → Bool := fun _ ds => decide (uptoBulkAll ds ≤ 1048576)
def OpenSpec.upto (s : _root_.Go.ChangeSpec) : _root_.Go.OpenSpec := { _root_.Go.OpenSpec.ofChange s with cond := some uptoSmall }

/-- 'yearbooklaw17.PageLays', WHERE WHAT IT READS IS OF BULK AT MOST 1048576: true; the input reads as it did. -/
def pageLaysUptoRow : OpenClaim := { program := "ytoeofoihkkhpfaa", sum := "56596b9bb322741064fe47f59e084dc245c6e35ab1a53f7e223cef6e53763a0d", func := "yearbook/yearbooklaw17.PageLays", spec := "pageLays", unfollowed := true, recurses := true, apart := false, narrowed := true }
def PageLaysUptoSaid : Prop := pageLaysUptoRow.holds Try.pinned (OpenSpec.upto pageLaysSpec)

/-- 'yearbooklaw17.PageReads', WHERE WHAT IT READS IS OF BULK AT MOST 1048576: true; the input reads as it did. -/
def pageReadsUptoRow : OpenClaim := { program := "ytoeofoihkkhpfaa", sum := "56596b9bb322741064fe47f59e084dc245c6e35ab1a53f7e223cef6e53763a0d", func := "yearbook/yearbooklaw17.PageReads", spec := "pageReads", unfollowed := true, recurses := true, apart := false, narrowed := true }
def PageReadsUptoSaid : Prop := pageReadsUptoRow.holds Try.pinned (OpenSpec.upto pageReadsSpec)

/-- 'yearbooklaw17.PageBack', WHERE WHAT IT READS IS OF BULK AT MOST 1048576: true; the input reads as it did. -/
def pageBackUptoRow : OpenClaim := { program := "ytoeofoihkkhpfaa", sum := "56596b9bb322741064fe47f59e084dc245c6e35ab1a53f7e223cef6e53763a0d", func := "yearbook/yearbooklaw17.PageBack", spec := "pageBack", unfollowed := true, recurses := true, apart := false, narrowed := true }
def PageBackUptoSaid : Prop := pageBackUptoRow.holds Try.pinned (OpenSpec.upto pageBackSpec)

/-- 'yearbooklaw17.PageDamaged', WHERE WHAT IT READS IS OF BULK AT MOST 1048576: true; the input reads as it did. -/
def pageDamagedUptoRow : OpenClaim := { program := "ytoeofoihkkhpfaa", sum := "56596b9bb322741064fe47f59e084dc245c6e35ab1a53f7e223cef6e53763a0d", func := "yearbook/yearbooklaw17.PageDamaged", spec := "pageDamaged", unfollowed := true, recurses := true, apart := false, narrowed := true }
def PageDamagedUptoSaid : Prop := pageDamagedUptoRow.holds Try.pinned (OpenSpec.upto pageDamagedSpec)

/-- 'yearbooklaw17.PageMixes', WHERE WHAT IT READS IS OF BULK AT MOST 1048576: true; the input reads as it did. -/
def pageMixesUptoRow : OpenClaim := { program := "ytoeofoihkkhpfaa", sum := "56596b9bb322741064fe47f59e084dc245c6e35ab1a53f7e223cef6e53763a0d", func := "yearbook/yearbooklaw17.PageMixes", spec := "pageMixes", unfollowed := true, recurses := true, apart := false, narrowed := true }
def PageMixesUptoSaid : Prop := pageMixesUptoRow.holds Try.pinned (OpenSpec.upto pageMixesSpec)

/-- 'yearbooklaw17.PageTorn', WHERE WHAT IT READS IS OF BULK AT MOST 1048576: true; the input reads as it did. -/
def pageTornUptoRow : OpenClaim := { program := "ytoeofoihkkhpfaa", sum := "56596b9bb322741064fe47f59e084dc245c6e35ab1a53f7e223cef6e53763a0d", func := "yearbook/yearbooklaw17.PageTorn", spec := "pageTorn", unfollowed := true, recurses := true, apart := false, narrowed := true }
def PageTornUptoSaid : Prop := pageTornUptoRow.holds Try.pinned (OpenSpec.upto pageTornSpec)

/-- 'yearbooklaw17.PageStamps', WHERE WHAT IT READS IS OF BULK AT MOST 1048576: true; the input reads as it did. -/
def pageStampsUptoRow : OpenClaim := { program := "ytoeofoihkkhpfaa", sum := "56596b9bb322741064fe47f59e084dc245c6e35ab1a53f7e223cef6e53763a0d", func := "yearbook/yearbooklaw17.PageStamps", spec := "pageStamps", unfollowed := true, recurses := true, apart := false, narrowed := true }
def PageStampsUptoSaid : Prop := pageStampsUptoRow.holds Try.pinned (OpenSpec.upto pageStampsSpec)

end Rows
end Go.Proofs.Ytoeofoihkkhpfaa
