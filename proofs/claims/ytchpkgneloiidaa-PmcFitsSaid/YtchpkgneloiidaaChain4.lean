/-
  ROWS OF ROWS THAT ARE WRITTEN OUT ([]T{a, b}): what comes to memory. Over any program.
-/
import Derived.Great.BuildSlice
import Derived.Test.YtchpkgneloiidaaRow
import Derived.Test.YtchpkgneloiidaaChain2
import Derived.Test.YtchpkgneloiidaaCopy
section
namespace Agg
open Go Go.RowKit

theorem flat_cells (css : List (List Value)) : (css.map fun cs => Value.agg cs.toArray).flatMap (fun v => v.cells.toList) = css.flatten := by
  induction css with
  | nil => rfl
  | cons c r ih => rw [List.map_cons, List.flatMap_cons, ih, List.flatten_cons]; simp [Value.cells]
theorem run_buildRows {P : Program} {t e : TypeId} {size bytes : Nat} {z : Value} (T : TI P t e size bytes z) (css : List (List Value)) (hl : ∀ c ∈ css, c.length = size) (hn : 0 < css.length) (hs : css.length * size ≤ 16777216) (w : World) :
    (Instr.buildSlice t css.length (((css.map fun cs => Value.agg cs.toArray).zipIdx 0).map fun x => (x.2, x.1)).toArray).run P w = .ok (.slice (some ⟨w.heap.size, 0, none⟩) css.length css.length) (w.alloc (.cells css.flatten.toArray e)) := by
  obtain ⟨i, hi, hz, hsz, _⟩ := T.info
  have hpos : 0 < css.length * size := Nat.mul_pos hn T.hsz
  refine run_buildSlice w t e css.length _ css.flatten.toArray i z T.ht hi hz (by rw [hsz]; omega) (by rw [hsz]; omega) ?_
  rw [hsz]
  have h := Go.Great.fill_whole T.hsz (css.map fun cs => Value.agg cs.toArray) ((Array.range (css.length * size)).map (z.cells[· % z.cells.size]!)) (fun v hv => by
    obtain ⟨c, hc, rfl⟩ := List.mem_map.1 hv
    simp [Value.cells, hl c hc]) (by simp)
  rw [flat_cells] at h
  exact h
theorem gBuildRows {P : Program} {w : World} {o : Oper} {Q : Exit → Act → World → Prop} {ops : Array Oper} {rest : List Oper} {a : Act} {t e : TypeId} {size bytes : Nat} {z : Value} (T : TI P t e size bytes z) (xs : List Operand) (css : List (List Value)) (hg : o.guard = none) (n : Nat)
    (ho : o.op = .buildSlice t n ((xs.zipIdx 0).map fun x => (x.2, x.1)).toArray) (hx : xs.map a.eval = css.map fun cs => Value.agg cs.toArray) (hc : css.length = n) (hl : ∀ c ∈ css, c.length = size) (hn : 0 < n) (hs : n * size ≤ 16777216)
    (h : wpList P ops Q rest (a.put o.dst (.slice (some ⟨w.heap.size, 0, none⟩) n n)) (w.alloc (.cells css.flatten.toArray e))) : wpList P ops Q (o :: rest) a w := by
  subst hc
  refine run hg _ _ ?_ h
  have h3 : ((((xs.zipIdx 0).map fun x => (x.2, x.1)).toArray).map fun (i, x) => (i, a.eval x)) = (((css.map fun cs => Value.agg cs.toArray).zipIdx 0).map fun x => (x.2, x.1)).toArray := by
    rw [← hx, List.map_toArray, List.zipIdx_map, List.map_map, List.map_map]; rfl
  simp only [execOp, ho, h3, Sem.run_bind, run_buildRows T css hl hn hs w, Result.andThen_ok, Sem.run_pure]
end Agg
end
section
/-
  CALLS IN REGIONS THAT DRAW THEIR ORDER, whose arguments are known, or of which something is known. Over any program.
-/
namespace Agg
open Go Go.RowKit
section
variable {n kk : Nat} {P : Program} {l rest : List Oper} {W : World} {l0 : List Value} {ds : List Deferred} {acc : List R} {o : Oper} {fin : List R → Prop}
/-- one argument, of which something is known -/
theorem chCall_o {f : FuncId} {fn : Func} (hf : P.funcs[f]? = some fn) (hbody : fn.body.isNone = false) (hname : (fn.name == "runtime.NumGoroutine") = false) {t : Nat} {ts : Array TypeId} (r : R) (hst : r.ok) (j : Nat) {g : Value → World → Prop}
    (ho : o.op = .call { callee := .value (.func f), args := #[.tmp t], argTypes := ts }) (hd : depL o j = true) (hj : look kk acc j = some (.op g)) (ht : (l[j]?).map (·.dst) = some (some t)) (hw : wants kk acc o = some true) (hk : gOk l o = true)
    (hc : ∀ u w, Below W.heap.size W w → g u w → Calls P f #[u] w fun e w' => ∃ v, e = .returned v ∧ r.holds v w' ∧ Below w.heap.size w w')
    (h : ChainR n P l.toArray W ⟨l0.toArray, ds⟩ (kk + 1) (r :: acc) rest fin) : ChainR n P l.toArray W ⟨l0.toArray, ds⟩ kk acc (o :: rest) fin :=
  chCallA (r := r) (by rw [ho]; rfl) hw hk hst hf hbody hname ho (fun a w hh => by
    obtain ⟨u, hu, hg⟩ := hh.op j t hd hj ht
    have e : (#[Operand.tmp t].map a.eval) = #[u] := by simp [hu]
    rw [e]
    exact hc u w hh.below hg) h
/-- two, the second one of which something is known -/
theorem chCall_po {f : FuncId} {fn : Func} (hf : P.funcs[f]? = some fn) (hbody : fn.body.isNone = false) (hname : (fn.name == "runtime.NumGoroutine") = false) {x : Operand} {vx : Value} {t : Nat} {ts : Array TypeId} (r : R) (hst : r.ok) (j : Nat) {g : Value → World → Prop}
    (ho : o.op = .call { callee := .value (.func f), args := #[x, .tmp t], argTypes := ts }) (hx : rd (l.take n) l0 kk acc o x = some vx) (hd : depL o j = true) (hj : look kk acc j = some (.op g)) (ht : (l[j]?).map (·.dst) = some (some t)) (hw : wants kk acc o = some true) (hk : gOk l o = true)
    (hc : ∀ u w, Below W.heap.size W w → g u w → Calls P f #[vx, u] w fun e w' => ∃ v, e = .returned v ∧ r.holds v w' ∧ Below w.heap.size w w')
    (h : ChainR n P l.toArray W ⟨l0.toArray, ds⟩ (kk + 1) (r :: acc) rest fin) : ChainR n P l.toArray W ⟨l0.toArray, ds⟩ kk acc (o :: rest) fin :=
  chCallA (r := r) (by rw [ho]; rfl) hw hk hst hf hbody hname ho (fun a w hh => by
    obtain ⟨u, hu, hg⟩ := hh.op j t hd hj ht
    have e : (#[x, Operand.tmp t].map a.eval) = #[vx, u] := by simp [hu, hh.rd hx]
    rw [e]
    exact hc u w hh.below hg) h
/-- .. the first one -/
theorem chCall_op {f : FuncId} {fn : Func} (hf : P.funcs[f]? = some fn) (hbody : fn.body.isNone = false) (hname : (fn.name == "runtime.NumGoroutine") = false) {x : Operand} {vx : Value} {t : Nat} {ts : Array TypeId} (r : R) (hst : r.ok) (j : Nat) {g : Value → World → Prop}
    (ho : o.op = .call { callee := .value (.func f), args := #[.tmp t, x], argTypes := ts }) (hx : rd (l.take n) l0 kk acc o x = some vx) (hd : depL o j = true) (hj : look kk acc j = some (.op g)) (ht : (l[j]?).map (·.dst) = some (some t)) (hw : wants kk acc o = some true) (hk : gOk l o = true)
    (hc : ∀ u w, Below W.heap.size W w → g u w → Calls P f #[u, vx] w fun e w' => ∃ v, e = .returned v ∧ r.holds v w' ∧ Below w.heap.size w w')
    (h : ChainR n P l.toArray W ⟨l0.toArray, ds⟩ (kk + 1) (r :: acc) rest fin) : ChainR n P l.toArray W ⟨l0.toArray, ds⟩ kk acc (o :: rest) fin :=
  chCallA (r := r) (by rw [ho]; rfl) hw hk hst hf hbody hname ho (fun a w hh => by
    obtain ⟨u, hu, hg⟩ := hh.op j t hd hj ht
    have e : (#[Operand.tmp t, x].map a.eval) = #[u, vx] := by simp [hu, hh.rd hx]
    rw [e]
    exact hc u w hh.below hg) h
/-- .. both -/
theorem chCall_oo {f : FuncId} {fn : Func} (hf : P.funcs[f]? = some fn) (hbody : fn.body.isNone = false) (hname : (fn.name == "runtime.NumGoroutine") = false) {t t2 : Nat} {ts : Array TypeId} (r : R) (hst : r.ok) (j j2 : Nat) {g g2 : Value → World → Prop}
    (ho : o.op = .call { callee := .value (.func f), args := #[.tmp t, .tmp t2], argTypes := ts }) (hd : depL o j = true) (hj : look kk acc j = some (.op g)) (ht : (l[j]?).map (·.dst) = some (some t)) (hd2 : depL o j2 = true) (hj2 : look kk acc j2 = some (.op g2)) (ht2 : (l[j2]?).map (·.dst) = some (some t2)) (hw : wants kk acc o = some true) (hk : gOk l o = true)
    (hc : ∀ u u2 w, Below W.heap.size W w → g u w → g2 u2 w → Calls P f #[u, u2] w fun e w' => ∃ v, e = .returned v ∧ r.holds v w' ∧ Below w.heap.size w w')
    (h : ChainR n P l.toArray W ⟨l0.toArray, ds⟩ (kk + 1) (r :: acc) rest fin) : ChainR n P l.toArray W ⟨l0.toArray, ds⟩ kk acc (o :: rest) fin :=
  chCallA (r := r) (by rw [ho]; rfl) hw hk hst hf hbody hname ho (fun a w hh => by
    obtain ⟨u, hu, hg⟩ := hh.op j t hd hj ht
    obtain ⟨u2, hu2, hg2⟩ := hh.op j2 t2 hd2 hj2 ht2
    have e : (#[Operand.tmp t, Operand.tmp t2].map a.eval) = #[u, u2] := by simp [hu, hu2]
    rw [e]
    exact hc u u2 w hh.below hg hg2) h
end
/-- a slice's elements do not lie where its first one does not -/
theorem SlR.far {w w' : World} {v : Value} {sz n : Nat} {cs : List Value} {g : Nat} {T : TypeId} {ds : List Value} (h : SlR w v sz n cs) (H : Blk w g T ds) (hc : ∀ (i : Nat) (u : Value), cs[0]? = some u → ds[i]? ≠ some u) (hg : w.grownBy w' (some g)) : SlR w' v sz n cs := by
  refine ⟨h.1, ?_⟩
  rcases h.2 with h2 | ⟨x, cap, rfl, h3, h4, h5⟩
  · exact .inl h2
  · refine .inr ⟨x, cap, rfl, h3, h4, fun i u hu => ?_⟩
    have h0 : 0 < cs.length := by have := (List.getElem?_eq_some_iff.1 hu).1; omega
    have hne : x.block ≠ g := by
      intro e
      have h1 := h5 0 cs[0] (List.getElem?_eq_getElem h0)
      have h2 : x.add 0 = x := by simp [Addr.add]
      rw [h2] at h1
      cases x with
      | mk b o s =>
        simp only at e
        subst e
        have hs : s = none := by
          cases s with
          | none => rfl
          | some q =>
            exfalso
            have hb : w.heap[b]? = some (.cells ds.toArray T (0, 0)) := H
            simp [World.cell?, hb] at h1
        subst hs
        rw [H.cell] at h1
        exact hc _ _ (List.getElem?_eq_getElem h0) h1
    have := h5 i u hu
    refine hg.cell this ?_
    intro e
    apply hne
    have e2 : (x.add i).block = x.block := by unfold Addr.add; split <;> rfl
    rw [← e2]; exact Option.some.inj e
end Agg
end
