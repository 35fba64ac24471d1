/-
  PAGES: rows of blocks.
-/
import Derived.Test.YtoeofoihkkhpfaaPgI
namespace Go.Proofs.Ytoeofoihkkhpfaa
open Go.ChangeShapes Go.WideShapes Go.ChangeAt Go.RowKit Agg Pg

theorem tiBl : TI Try.prog 51 36 132 160 (.agg (blkC zeroB).toArray) := ⟨by kernel_rfl, by kernel_rfl, by simp [Value.cells, zero132], by decide⟩
theorem flat_take {l : List (List Sec)} (hl : ∀ b ∈ l, (blkC b).length = 132) (m : Nat) : (l.flatMap blkC).take (m * 132) = (l.take m).flatMap blkC := by
  induction l generalizing m with
  | nil => simp
  | cons a r ih =>
    cases m with
    | zero => simp
    | succ m =>
      have ha := hl a (by simp)
      rw [List.flatMap_cons, List.take_succ_cons, List.flatMap_cons, List.take_append, ha, show (m + 1) * 132 - 132 = m * 132 by omega, ih (fun b hb => hl b (by simp [hb])) m, List.take_of_length_le (by omega)]
theorem blks_take {w : World} {x : Option Addr} {cap : Nat} {l : List (List Sec)} (h : Blks w (.slice x l.length cap) l) (hl : ∀ b ∈ l, (blkC b).length = 132) (m : Nat) (hm : m ≤ l.length) : SlR w (.slice x m cap) 132 m ((l.take m).flatMap blkC) := by
  have := SlR.take h m hm
  rwa [flat_take hl m] at this
theorem flat_one (l : List (List Sec)) : ∀ u ∈ l.flatMap blkC, u.oneCell' = true := by
  intro u hu
  obtain ⟨b, _, hb⟩ := List.mem_flatMap.1 hu
  exact blkC_one b u hb
end Go.Proofs.Ytoeofoihkkhpfaa
