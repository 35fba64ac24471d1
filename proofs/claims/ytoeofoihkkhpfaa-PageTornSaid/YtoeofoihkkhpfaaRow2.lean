/-
  ROWS OF ROWS THAT ARE WRITTEN OUT ([]T{a, b}): what comes to memory. Over any program.
-/
import Derived.Test.YtoeofoihkkhpfaaRow
import Derived.Great.BuildSlice
namespace Agg
open Go Go.RowKit

theorem flat_cells (css : List (List Value)) : (css.map fun cs => Value.agg cs.toArray).flatMap (fun v => v.cells.toList) = css.flatten := by
  induction css with
  | nil => rfl
  | cons c r ih => rw [List.map_cons, List.flatMap_cons, ih, List.flatten_cons]; simp [Value.cells]
theorem run_buildRows {P : Program} {t e : TypeId} {size bytes : Nat} {z : Value} (T : TI P t e size bytes z) (css : List (List Value)) (hl : ∀ c ∈ css, c.length = size) (hn : 0 < css.length) (hs : css.length * size ≤ 16777216) (w : World) :
    (Instr.buildSlice t css.length (((css.map fun cs => Value.agg cs.toArray).zipIdx 0).map fun x => (x.2, x.1)).toArray).run P w = .ok (.slice (some ⟨w.heap.size, 0, none⟩) css.length css.length) (w.alloc (.cells css.flatten.toArray e)) := by
  obtain ⟨i, hi, hz, hsz, _⟩ := T.info
  have hpos : 0 < css.length * size := Nat.mul_pos hn T.hsz
  refine run_buildSlice w t e css.length _ css.flatten.toArray i z T.ht hi hz (by rw [hsz]; omega) (by rw [hsz]; omega) ?_
  rw [hsz]
  have h := Go.Great.fill_whole T.hsz (css.map fun cs => Value.agg cs.toArray) ((Array.range (css.length * size)).map (z.cells[· % z.cells.size]!)) (fun v hv => by
    obtain ⟨c, hc, rfl⟩ := List.mem_map.1 hv
    simp [Value.cells, hl c hc]) (by simp)
  rw [flat_cells] at h
  exact h
theorem gBuildRows {P : Program} {w : World} {o : Oper} {Q : Exit → Act → World → Prop} {ops : Array Oper} {rest : List Oper} {a : Act} {t e : TypeId} {size bytes : Nat} {z : Value} (T : TI P t e size bytes z) (xs : List Operand) (css : List (List Value)) (hg : o.guard = none) (n : Nat)
    (ho : o.op = .buildSlice t n ((xs.zipIdx 0).map fun x => (x.2, x.1)).toArray) (hx : xs.map a.eval = css.map fun cs => Value.agg cs.toArray) (hc : css.length = n) (hl : ∀ c ∈ css, c.length = size) (hn : 0 < n) (hs : n * size ≤ 16777216)
    (h : wpList P ops Q rest (a.put o.dst (.slice (some ⟨w.heap.size, 0, none⟩) n n)) (w.alloc (.cells css.flatten.toArray e))) : wpList P ops Q (o :: rest) a w := by
  subst hc
  refine run hg _ _ ?_ h
  have h3 : ((((xs.zipIdx 0).map fun x => (x.2, x.1)).toArray).map fun (i, x) => (i, a.eval x)) = (((css.map fun cs => Value.agg cs.toArray).zipIdx 0).map fun x => (x.2, x.1)).toArray := by
    rw [← hx, List.map_toArray, List.zipIdx_map, List.map_map, List.map_map]; rfl
  simp only [execOp, ho, h3, Sem.run_bind, run_buildRows T css hl hn hs w, Result.andThen_ok, Sem.run_pure]
end Agg
