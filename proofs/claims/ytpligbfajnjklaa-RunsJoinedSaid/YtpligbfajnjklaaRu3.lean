/-
  ROWS OF ROWS THAT ARE WRITTEN OUT ([]T{a, b}): what comes to memory. Over any program.
-/
import Derived.Great.BuildSlice
import Derived.Test.YtpligbfajnjklaaRows
import Derived.WalkKit
import Derived.WalkLawsBesides
import Derived.Defers
import Derived.Recover
import Derived.ProofKit
import Derived.OpenShut
import Derived.Below
import Derived.StillTailTactics
import Derived.Lib.Hide
import Derived.BigQuiet
import Derived.Deep.QuietTactic
import Derived.Deep.Cut
import Derived.Deep.CutBlock
import Derived.Test.YtpligbfajnjklaaRow
import Derived.Test.YtpligbfajnjklaaChain2
import Derived.Test.YtpligbfajnjklaaCopy
import Derived.Test.YtpligbfajnjklaaHeld
import Derived.Test.YtpligbfajnjklaaRu2
section
namespace Agg
open Go Go.RowKit

theorem flat_cells (css : List (List Value)) : (css.map fun cs => Value.agg cs.toArray).flatMap (fun v => v.cells.toList) = css.flatten := by
  induction css with
  | nil => rfl
  | cons c r ih => rw [List.map_cons, List.flatMap_cons, ih, List.flatten_cons]; simp [Value.cells]
theorem run_buildRows {P : Program} {t e : TypeId} {size bytes : Nat} {z : Value} (T : TI P t e size bytes z) (css : List (List Value)) (hl : ∀ c ∈ css, c.length = size) (hn : 0 < css.length) (hs : css.length * size ≤ 16777216) (w : World) :
    (Instr.buildSlice t css.length (((css.map fun cs => Value.agg cs.toArray).zipIdx 0).map fun x => (x.2, x.1)).toArray).run P w = .ok (.slice (some ⟨w.heap.size, 0, none⟩) css.length css.length) (w.alloc (.cells css.flatten.toArray e)) := by
  obtain ⟨i, hi, hz, hsz, _⟩ := T.info
  have hpos : 0 < css.length * size := Nat.mul_pos hn T.hsz
  refine run_buildSlice w t e css.length _ css.flatten.toArray i z T.ht hi hz (by rw [hsz]; omega) (by rw [hsz]; omega) ?_
  rw [hsz]
  have h := Go.Great.fill_whole T.hsz (css.map fun cs => Value.agg cs.toArray) ((Array.range (css.length * size)).map (z.cells[· % z.cells.size]!)) (fun v hv => by
    obtain ⟨c, hc, rfl⟩ := List.mem_map.1 hv
    simp [Value.cells, hl c hc]) (by simp)
  rw [flat_cells] at h
  exact h
theorem gBuildRows {P : Program} {w : World} {o : Oper} {Q : Exit → Act → World → Prop} {ops : Array Oper} {rest : List Oper} {a : Act} {t e : TypeId} {size bytes : Nat} {z : Value} (T : TI P t e size bytes z) (xs : List Operand) (css : List (List Value)) (hg : o.guard = none) (n : Nat)
    (ho : o.op = .buildSlice t n ((xs.zipIdx 0).map fun x => (x.2, x.1)).toArray) (hx : xs.map a.eval = css.map fun cs => Value.agg cs.toArray) (hc : css.length = n) (hl : ∀ c ∈ css, c.length = size) (hn : 0 < n) (hs : n * size ≤ 16777216)
    (h : wpList P ops Q rest (a.put o.dst (.slice (some ⟨w.heap.size, 0, none⟩) n n)) (w.alloc (.cells css.flatten.toArray e))) : wpList P ops Q (o :: rest) a w := by
  subst hc
  refine run hg _ _ ?_ h
  have h3 : ((((xs.zipIdx 0).map fun x => (x.2, x.1)).toArray).map fun (i, x) => (i, a.eval x)) = (((css.map fun cs => Value.agg cs.toArray).zipIdx 0).map fun x => (x.2, x.1)).toArray := by
    rw [← hx, List.map_toArray, List.zipIdx_map, List.map_map, List.map_map]; rfl
  simp only [execOp, ho, h3, Sem.run_bind, run_buildRows T css hl hn hs w, Result.andThen_ok, Sem.run_pure]
end Agg
end
section
/-
  CALLS IN REGIONS THAT DRAW THEIR ORDER, whose arguments are known, or of which something is known. Over any program.
-/
namespace Agg
open Go Go.RowKit
section
variable {n kk : Nat} {P : Program} {l rest : List Oper} {W : World} {l0 : List Value} {ds : List Deferred} {acc : List R} {o : Oper} {fin : List R → Prop}
/-- one argument, of which something is known -/
theorem chCall_o {f : FuncId} {fn : Func} (hf : P.funcs[f]? = some fn) (hbody : fn.body.isNone = false) (hname : (fn.name == "runtime.NumGoroutine") = false) {t : Nat} {ts : Array TypeId} (r : R) (hst : r.ok) (j : Nat) {g : Value → World → Prop}
    (ho : o.op = .call { callee := .value (.func f), args := #[.tmp t], argTypes := ts }) (hd : depL o j = true) (hj : look kk acc j = some (.op g)) (ht : (l[j]?).map (·.dst) = some (some t)) (hw : wants kk acc o = some true) (hk : gOk l o = true)
    (hc : ∀ u w, Below W.heap.size W w → g u w → Calls P f #[u] w fun e w' => ∃ v, e = .returned v ∧ r.holds v w' ∧ Below w.heap.size w w')
    (h : ChainR n P l.toArray W ⟨l0.toArray, ds⟩ (kk + 1) (r :: acc) rest fin) : ChainR n P l.toArray W ⟨l0.toArray, ds⟩ kk acc (o :: rest) fin :=
  chCallA (r := r) (by rw [ho]; rfl) hw hk hst hf hbody hname ho (fun a w hh => by
    obtain ⟨u, hu, hg⟩ := hh.op j t hd hj ht
    have e : (#[Operand.tmp t].map a.eval) = #[u] := by simp [hu]
    rw [e]
    exact hc u w hh.below hg) h
/-- two, the second one of which something is known -/
theorem chCall_po {f : FuncId} {fn : Func} (hf : P.funcs[f]? = some fn) (hbody : fn.body.isNone = false) (hname : (fn.name == "runtime.NumGoroutine") = false) {x : Operand} {vx : Value} {t : Nat} {ts : Array TypeId} (r : R) (hst : r.ok) (j : Nat) {g : Value → World → Prop}
    (ho : o.op = .call { callee := .value (.func f), args := #[x, .tmp t], argTypes := ts }) (hx : rd (l.take n) l0 kk acc o x = some vx) (hd : depL o j = true) (hj : look kk acc j = some (.op g)) (ht : (l[j]?).map (·.dst) = some (some t)) (hw : wants kk acc o = some true) (hk : gOk l o = true)
    (hc : ∀ u w, Below W.heap.size W w → g u w → Calls P f #[vx, u] w fun e w' => ∃ v, e = .returned v ∧ r.holds v w' ∧ Below w.heap.size w w')
    (h : ChainR n P l.toArray W ⟨l0.toArray, ds⟩ (kk + 1) (r :: acc) rest fin) : ChainR n P l.toArray W ⟨l0.toArray, ds⟩ kk acc (o :: rest) fin :=
  chCallA (r := r) (by rw [ho]; rfl) hw hk hst hf hbody hname ho (fun a w hh => by
    obtain ⟨u, hu, hg⟩ := hh.op j t hd hj ht
    have e : (#[x, Operand.tmp t].map a.eval) = #[vx, u] := by simp [hu, hh.rd hx]
    rw [e]
    exact hc u w hh.below hg) h
/-- .. the first one -/
theorem chCall_op {f : FuncId} {fn : Func} (hf : P.funcs[f]? = some fn) (hbody : fn.body.isNone = false) (hname : (fn.name == "runtime.NumGoroutine") = false) {x : Operand} {vx : Value} {t : Nat} {ts : Array TypeId} (r : R) (hst : r.ok) (j : Nat) {g : Value → World → Prop}
    (ho : o.op = .call { callee := .value (.func f), args := #[.tmp t, x], argTypes := ts }) (hx : rd (l.take n) l0 kk acc o x = some vx) (hd : depL o j = true) (hj : look kk acc j = some (.op g)) (ht : (l[j]?).map (·.dst) = some (some t)) (hw : wants kk acc o = some true) (hk : gOk l o = true)
    (hc : ∀ u w, Below W.heap.size W w → g u w → Calls P f #[u, vx] w fun e w' => ∃ v, e = .returned v ∧ r.holds v w' ∧ Below w.heap.size w w')
    (h : ChainR n P l.toArray W ⟨l0.toArray, ds⟩ (kk + 1) (r :: acc) rest fin) : ChainR n P l.toArray W ⟨l0.toArray, ds⟩ kk acc (o :: rest) fin :=
  chCallA (r := r) (by rw [ho]; rfl) hw hk hst hf hbody hname ho (fun a w hh => by
    obtain ⟨u, hu, hg⟩ := hh.op j t hd hj ht
    have e : (#[Operand.tmp t, x].map a.eval) = #[u, vx] := by simp [hu, hh.rd hx]
    rw [e]
    exact hc u w hh.below hg) h
/-- .. both -/
theorem chCall_oo {f : FuncId} {fn : Func} (hf : P.funcs[f]? = some fn) (hbody : fn.body.isNone = false) (hname : (fn.name == "runtime.NumGoroutine") = false) {t t2 : Nat} {ts : Array TypeId} (r : R) (hst : r.ok) (j j2 : Nat) {g g2 : Value → World → Prop}
    (ho : o.op = .call { callee := .value (.func f), args := #[.tmp t, .tmp t2], argTypes := ts }) (hd : depL o j = true) (hj : look kk acc j = some (.op g)) (ht : (l[j]?).map (·.dst) = some (some t)) (hd2 : depL o j2 = true) (hj2 : look kk acc j2 = some (.op g2)) (ht2 : (l[j2]?).map (·.dst) = some (some t2)) (hw : wants kk acc o = some true) (hk : gOk l o = true)
    (hc : ∀ u u2 w, Below W.heap.size W w → g u w → g2 u2 w → Calls P f #[u, u2] w fun e w' => ∃ v, e = .returned v ∧ r.holds v w' ∧ Below w.heap.size w w')
    (h : ChainR n P l.toArray W ⟨l0.toArray, ds⟩ (kk + 1) (r :: acc) rest fin) : ChainR n P l.toArray W ⟨l0.toArray, ds⟩ kk acc (o :: rest) fin :=
  chCallA (r := r) (by rw [ho]; rfl) hw hk hst hf hbody hname ho (fun a w hh => by
    obtain ⟨u, hu, hg⟩ := hh.op j t hd hj ht
    obtain ⟨u2, hu2, hg2⟩ := hh.op j2 t2 hd2 hj2 ht2
    have e : (#[Operand.tmp t, Operand.tmp t2].map a.eval) = #[u, u2] := by simp [hu, hu2]
    rw [e]
    exact hc u u2 w hh.below hg hg2) h
end
/-- a slice's elements do not lie where its first one does not -/
theorem SlR.far {w w' : World} {v : Value} {sz n : Nat} {cs : List Value} {g : Nat} {T : TypeId} {ds : List Value} (h : SlR w v sz n cs) (H : Blk w g T ds) (hc : ∀ (i : Nat) (u : Value), cs[0]? = some u → ds[i]? ≠ some u) (hg : w.grownBy w' (some g)) : SlR w' v sz n cs := by
  refine ⟨h.1, ?_⟩
  rcases h.2 with h2 | ⟨x, cap, rfl, h3, h4, h5⟩
  · exact .inl h2
  · refine .inr ⟨x, cap, rfl, h3, h4, fun i u hu => ?_⟩
    have h0 : 0 < cs.length := by have := (List.getElem?_eq_some_iff.1 hu).1; omega
    have hne : x.block ≠ g := by
      intro e
      have h1 := h5 0 cs[0] (List.getElem?_eq_getElem h0)
      have h2 : x.add 0 = x := by simp [Addr.add]
      rw [h2] at h1
      cases x with
      | mk b o s =>
        simp only at e
        subst e
        have hs : s = none := by
          cases s with
          | none => rfl
          | some q =>
            exfalso
            have hb : w.heap[b]? = some (.cells ds.toArray T (0, 0)) := H
            simp [World.cell?, hb] at h1
        subst hs
        rw [H.cell] at h1
        exact hc _ _ (List.getElem?_eq_getElem h0) h1
    have := h5 i u hu
    refine hg.cell this ?_
    intro e
    apply hne
    have e2 : (x.add i).block = x.block := by unfold Addr.add; split <;> rfl
    rw [← e2]; exact Option.some.inj e
end Agg
end
section
/-
  BLOCKS, in plain Lean: their cells (the head of XPg1, for other seats); rows of things of one size.
-/
namespace Pg
open Go Go.RowKit Agg

/-- a sector: its stamp, its bytes -/
abbrev Sec := Nat × List UInt8
def secC (s : Sec) : List Value := .int .u64 (s.1 : Int) :: bv s.2
def blkC (b : List Sec) : List Value := b.flatMap secC
def Len32 (b : List Sec) : Prop := ∀ s ∈ b, s.2.length = 32
def BOk (b : List Sec) : Prop := b.length = 4 ∧ ∀ s ∈ b, s.2.length = 32 ∧ s.1 < 18446744073709551616
theorem BOk.len {b : List Sec} (h : BOk b) : Len32 b := fun s hs => (h.2 s hs).1
theorem secC_length (s : Sec) (h : s.2.length = 32) : (secC s).length = 33 := by simp [secC, bv_length, h]
theorem blkC_cons (s : Sec) (b : List Sec) : blkC (s :: b) = secC s ++ blkC b := rfl
theorem blkC_append (a b : List Sec) : blkC (a ++ b) = blkC a ++ blkC b := List.flatMap_append
theorem blkC_length (b : List Sec) (h : Len32 b) : (blkC b).length = b.length * 33 := by
  induction b with
  | nil => rfl
  | cons s r ih =>
    rw [blkC_cons, List.length_append, secC_length s (h s (by simp)), ih (fun x hx => h x (by simp [hx])), List.length_cons]; omega
theorem blkC_one (b : List Sec) : ∀ u ∈ blkC b, u.oneCell' = true := by
  intro u hu
  obtain ⟨s, _, hs⟩ := List.mem_flatMap.1 hu
  rcases List.mem_cons.1 hs with rfl | h
  · rfl
  · exact bv_one _ u h
theorem secC_one (s : Sec) : ∀ u ∈ secC s, u.oneCell' = true := by
  intro u hu
  rcases List.mem_cons.1 hu with rfl | h
  · rfl
  · exact bv_one _ u h
/-- a block, cut at a sector -/
theorem cut_at (b : List Sec) (k : Nat) (h : k < b.length) : b = b.take k ++ (b[k] :: b.drop (k + 1)) := by
  rw [List.getElem_cons_drop]; exact (List.take_append_drop k b).symm
theorem take_len (b : List Sec) (hl : Len32 b) (k : Nat) (h : k ≤ b.length) : (blkC (b.take k)).length = k * 33 := by
  rw [blkC_length _ (fun s hs => hl s (List.mem_of_mem_take hs)), List.length_take]
  congr 1; omega
theorem blkC_sec (b : List Sec) (hl : Len32 b) (k : Nat) (h : k < b.length) (r : List Value) : ((blkC b ++ r).drop (k * 33)).take 33 = secC b[k] := by
  have e : blkC b = blkC (b.take k) ++ (secC b[k] ++ blkC (b.drop (k + 1))) := by
    conv => lhs; rw [cut_at b k h]
    rw [blkC_append, blkC_cons]
  rw [e, List.append_assoc, List.drop_left' (take_len b hl k (by omega)), List.append_assoc, List.take_left' (secC_length _ (hl _ (List.getElem_mem h)))]
theorem blkC_cell (b : List Sec) (hl : Len32 b) (k : Nat) (h : k < b.length) (r : List Value) (j : Nat) (hj : j < 33) : (blkC b ++ r)[k * 33 + j]? = (secC b[k])[j]? := by
  rw [← blkC_sec b hl k h r, List.getElem?_take_of_lt hj, List.getElem?_drop]
theorem blkC_stamp (b : List Sec) (hl : Len32 b) (k : Nat) (h : k < b.length) (r : List Value) : (blkC b ++ r)[k * 33]? = some (.int .u64 (b[k].1 : Int)) := blkC_cell b hl k h r 0 (by omega)
theorem blkC_byte (b : List Sec) (hl : Len32 b) (k : Nat) (h : k < b.length) (r : List Value) (j : Nat) (hj : j < b[k].2.length) : (blkC b ++ r)[k * 33 + (1 + j)]? = some (.int .u8 (b[k].2[j].toNat : Int)) := by
  have := hl _ (List.getElem_mem h)
  rw [blkC_cell b hl k h r (1 + j) (by omega), show 1 + j = j + 1 by omega]
  exact bv_get _ _ hj
theorem blkC_set (b : List Sec) (hl : Len32 b) (k : Nat) (h : k < b.length) (s : Sec) (hs : s.2.length = 32) (r : List Value) : spliced (blkC b ++ r) (k * 33) (secC s) = blkC (b.set k s) ++ r := by
  have e : blkC b ++ r = blkC (b.take k) ++ secC b[k] ++ (blkC (b.drop (k + 1)) ++ r) := by
    conv => lhs; rw [cut_at b k h]
    rw [blkC_append, blkC_cons]; simp only [List.append_assoc]
  have e2 : b.set k s = b.take k ++ (s :: b.drop (k + 1)) := by rw [List.set_eq_take_append_cons_drop, if_pos h]
  rw [e, spliced_mid _ _ _ _ _ (take_len b hl k (by omega)) (by rw [secC_length _ hs, secC_length _ (hl _ (List.getElem_mem h))]), e2, blkC_append, blkC_cons]
  simp only [List.append_assoc]
theorem blkC_put (b : List Sec) (hl : Len32 b) (k : Nat) (h : k < b.length) (d : List UInt8) (hd : d.length = 32) (r : List Value) : spliced (blkC b ++ r) (k * 33 + 1) (bv d) = blkC (b.set k (b[k].1, d)) ++ r := by
  have e : blkC b ++ r = (blkC (b.take k) ++ [.int .u64 (b[k].1 : Int)]) ++ bv b[k].2 ++ (blkC (b.drop (k + 1)) ++ r) := by
    conv => lhs; rw [cut_at b k h]
    rw [blkC_append, blkC_cons, secC]; simp only [List.append_assoc, List.cons_append, List.nil_append]
  have e2 : b.set k (b[k].1, d) = b.take k ++ ((b[k].1, d) :: b.drop (k + 1)) := by rw [List.set_eq_take_append_cons_drop, if_pos h]
  rw [e, spliced_mid _ _ _ _ _ (by rw [List.length_append, take_len b hl k (by omega)]; rfl) (by rw [bv_length, bv_length, hd, hl _ (List.getElem_mem h)]), e2, blkC_append, blkC_cons, secC]
  simp only [List.append_assoc, List.cons_append, List.nil_append]
theorem blkC_stamped (b : List Sec) (hl : Len32 b) (k : Nat) (h : k < b.length) (n : Nat) (r : List Value) : spliced (blkC b ++ r) (k * 33) [.int .u64 (n : Int)] = blkC (b.set k (n, b[k].2)) ++ r := by
  have e : blkC b ++ r = blkC (b.take k) ++ [.int .u64 (b[k].1 : Int)] ++ (bv b[k].2 ++ (blkC (b.drop (k + 1)) ++ r)) := by
    conv => lhs; rw [cut_at b k h]
    rw [blkC_append, blkC_cons, secC]; simp only [List.append_assoc, List.cons_append, List.nil_append]
  have e2 : b.set k (n, b[k].2) = b.take k ++ ((n, b[k].2) :: b.drop (k + 1)) := by rw [List.set_eq_take_append_cons_drop, if_pos h]
  rw [e, spliced_mid (blkC (b.take k)) [.int .u64 (b[k].1 : Int)] (bv b[k].2 ++ (blkC (b.drop (k + 1)) ++ r)) [.int .u64 (n : Int)] (k * 33) (take_len b hl k (by omega)) rfl, e2, blkC_append, blkC_cons, secC]
  simp only [List.append_assoc, List.cons_append, List.nil_append]
theorem set_len {b : List Sec} (hl : Len32 b) (k : Nat) (s : Sec) (hs : s.2.length = 32) : Len32 (b.set k s) := by
  intro x hx
  rcases List.mem_or_eq_of_mem_set hx with h | h
  · exact hl x h
  · rw [h]; exact hs

def zeroB : List Sec := List.replicate 4 (0, List.replicate 32 0)
theorem zeroB_bok : BOk zeroB := ⟨rfl, fun s hs => by
  obtain rfl := List.eq_of_mem_replicate hs
  exact ⟨by simp, by decide⟩⟩
theorem bok_cells {b : List Sec} (h : BOk b) : (blkC b).length = 132 := by rw [blkC_length b h.len, h.1]
theorem zero132 : (blkC zeroB).length = 132 := bok_cells zeroB_bok
/-- rows of things of one size -/
theorem flat_len {α : Type} (f : α → List Value) (m : Nat) (l : List α) (hl : ∀ x ∈ l, (f x).length = m) : (l.flatMap f).length = l.length * m := by
  induction l with
  | nil => simp
  | cons a r ih =>
    rw [List.flatMap_cons, List.length_append, hl a (by simp), ih (fun x hx => hl x (by simp [hx])), List.length_cons, Nat.succ_mul]; omega
theorem flat_cells {α : Type} (f : α → List Value) (m : Nat) {l : List α} (hl : ∀ x ∈ l, (f x).length = m) (k : Nat) (h : k < l.length) (i : Nat) (v : Value) (hv : (f l[k])[i]? = some v) : (l.flatMap f)[k * m + i]? = some v := by
  induction l generalizing k with
  | nil => simp at h
  | cons a r ih =>
    have ha := hl a (by simp)
    rw [List.flatMap_cons]
    cases k with
    | zero =>
      have : i < (f a).length := (List.getElem?_eq_some_iff.1 hv).1
      rw [List.getElem?_append_left (by omega)]
      simpa using hv
    | succ k =>
      rw [List.getElem?_append_right (by rw [ha, Nat.succ_mul]; omega), ha, show (k + 1) * m + i - m = k * m + i by rw [Nat.succ_mul]; omega]
      exact ih (fun x hx => hl x (by simp [hx])) k (by simpa using h) hv
theorem flat_at {α : Type} (f : α → List Value) (m : Nat) (hm : 0 < m) {w : World} {b o n cap : Nat} {l : List α} (h : SlR w (.slice (some ⟨b, o, none⟩) n cap) m l.length (l.flatMap f)) (hl : ∀ x ∈ l, (f x).length = m) {k : Nat} (hk : k < l.length) (i : Nat) (v : Value) (hv : (f l[k])[i]? = some v) : w.cell? ⟨b, o + (k : Int).toNat * m + i, none⟩ = some v := by
  obtain ⟨b', o', cap', hv', _, _, hc, _⟩ := SlR.pos h hm (by omega)
  simp only [Value.slice.injEq, Option.some.injEq, Addr.mk.injEq, and_true] at hv'
  obtain ⟨⟨rfl, rfl⟩, _⟩ := hv'
  have := hc (k * m + i) _ (flat_cells f m hl k hk i v hv)
  rw [Int.toNat_natCast, Nat.add_assoc]; exact this
end Pg
end
section
/-
  A row of cells in a region, wherever it lies (a part of XDvA, for other seats). Over any program.
-/
namespace Agg
open Go Go.RowKit
section
variable {n kk : Nat} {P : Program} {l rest : List Oper} {W : World} {l0 : List Value} {ds : List Deferred} {acc : List R} {o : Oper} {fin : List R → Prop}
/-- a row of cells, wherever it lies -/
theorem chRowAt (m : Nat) (cs : List Value) (hm : cs.length = m) {b f : Nat} {t : TypeId} {y : Operand} (ht : aggT P t m = true) (ho : o.op = .load t y) (hy : rd (l.take n) l0 kk acc o y = some (.pointer (some ⟨b, f, none⟩))) (hw : wants kk acc o = some true) (hk : gOk l o = true)
    (hc : ∀ i v, cs[i]? = some v → W.cell? ⟨b, f + i, none⟩ = some v)
    (h : ChainR n P l.toArray W ⟨l0.toArray, ds⟩ (kk + 1) ((.pure (.agg cs.toArray)) :: acc) rest fin) : ChainR n P l.toArray W ⟨l0.toArray, ds⟩ kk acc (o :: rest) fin := by
  subst hm
  simp only [aggT, Bool.and_eq_true, beq_iff_eq] at ht
  obtain ⟨e1, e2⟩ := ht
  cases hu : P.underlying t with
  | none => simp [hu] at e1
  | some d =>
    refine chLoadRow d cs ho hy hw hk hu ?_ e2 (fun i v hi => ?_) h
    · cases d <;> simp [hu] at e1 <;> rfl
    · rw [add_none]; exact hc i v hi
end
end Agg
end
section
/-
  THE WALKS OF LAYER 7 (runs): a run's last time; what leaves, and what catches.
-/
namespace Ru
open Go Go.RowKit Agg
def ruC (r : Rn) : List Value := [.int .i64 r.1, .int .i64 r.2.1, .int .i64 r.2.2]
abbrev Rus (w : World) (v : Value) (l : List Rn) : Prop := SlR w v 3 l.length (l.flatMap ruC)
/-- numbers that an int64 holds -/
def I64 (z : Int) : Prop := -9223372036854775808 ≤ z ∧ z ≤ 9223372036854775807
def Rw (r : Rn) : Prop := I64 r.1 ∧ I64 r.2.1 ∧ I64 r.2.2
theorem sized_last {r : Rn} (h : sized r = true) : 0 ≤ r.2.1 * (r.2.2 - 1) ∧ r.2.1 * (r.2.2 - 1) ≤ 71776119061217280 := by
  obtain ⟨h1, h2, h3, h4, h5, h6⟩ := (sized_iff r).1 h
  unfold maxT at *
  refine ⟨Int.mul_nonneg h5 (by omega), ?_⟩
  have := Int.mul_le_mul h6 (show r.2.2 - 1 ≤ 255 by omega) (by omega) (by omega)
  omega
end Ru
namespace Go.Proofs.Ytpligbfajnjklaa
open Go.ChangeShapes Go.WideShapes Go.ChangeAt Go.RowKit Agg Pg Ru

theorem fo_fo_Run_0 : Agg.fieldOff Try.prog 31 0 = some 0 := by kernel_rfl
theorem fo_fo_Run_1 : Agg.fieldOff Try.prog 31 1 = some 1 := by kernel_rfl
theorem fo_fo_Run_2 : Agg.fieldOff Try.prog 31 2 = some 2 := by kernel_rfl
theorem ret_int {k : IntKind} {a b : Int} (h : a = b) : Ending.returned (.int k a) = .returned (.int k b) := by rw [h]
set_option maxHeartbeats 1000000 in
theorem last_any (r : Rn) (h : sized r = true) (w : World) :
    Calls Try.prog 48 #[.agg (ruC r).toArray] w fun e w' => e = .returned (.int .i64 (last r)) ∧ Below w.heap.size w w' := by
  have HS := Lib.hid ((sized_iff r).1 h)
  have HM := Lib.hid (sized_last h)
  obtain ⟨a, s, c⟩ := r
  simp only [ruC]
  simp only at HS HM
  clear h
  have HB := Lib.hid (Below.refl w.heap.size w)
  go_enter Try.func48, Try.ntmps48
  go_wp2_with fail
  go_ret
  refine ⟨ret_int ?_, ?_⟩
  · obtain ⟨h1, h2, h3, h4, h5, h6⟩ := HS.out
    obtain ⟨m1, m2⟩ := HM.out
    unfold maxT at h4 h6
    simp only [last]
    generalize hp : s * (c - 1) = p at *
    have e1 : wrap64 (c - 1) = c - 1 := by unfold wrap64; omega
    rw [e1, hp]
    have e2 : wrap64 p = p := by unfold wrap64; omega
    rw [e2]
    unfold wrap64; omega
  · exact HB.out.trans ((bel_alloc (Below.refl _ w) _))
theorem sure_ok (w : World) : Calls Try.prog 52 #[.bool true] w fun e w' => e = .returned (.tuple #[]) ∧ w = w' := by
  go_enter Try.func52, Try.ntmps52
  go_wp2
  go_end0
  exact ⟨rfl, rfl⟩
theorem sure_no (w : World) : Calls Try.prog 52 #[.bool false] w fun e w' => e = .panicked [{ v := .iface 25 (.int .i64 170), recovered := false }] ∧ w = w' := by
  go_enter Try.func52, Try.ntmps52
  go_wp2
  exact ⟨rfl, rfl, rfl⟩
theorem catch_panicking (p : Addr) (x : Bool) (u : TypeId) (pv : Value) (older : List PanicEntry) (w : World) (hc : w.cell? p = some (.bool x)) (hz : w.frozen? p = false) :
    CallsD Try.prog 51 #[.pointer (some p)] (.panicking ({ v := .iface u pv, recovered := false } :: older)) w fun e u' w' =>
      e = .returned (.tuple #[]) ∧ u' = .panicking ({ v := .iface u pv, recovered := true } :: older) ∧ w' = w.setCell p (.bool false) := by
  refine callsD_of_wpS Try.func51 rfl fun c₀ cs hu => ?_
  apply wpS_seq
  apply wpS_region
  simp [wpOpsS, go_sem, recoverD, hu, Try.ntmps51, Exit.thenS]
  refine wpS_cond (t := true) (by simp [Act.eval, Array.replicate]) ?_
  simp only [if_true]
  apply wpS_region
  simp [wpOpsS, go_sem, hc, hz, bodyPostS, results, Try.results51]
theorem catch_idle (p : Addr) (w : World) :
    CallsD Try.prog 51 #[.pointer (some p)] .returning w fun e u' w' => e = .returned (.tuple #[]) ∧ u' = .returning ∧ w' = w := by
  refine callsD_of_wpS Try.func51 rfl fun c₀ cs hu => ?_
  apply wpS_seq
  apply wpS_region
  simp [wpOpsS, go_sem, recoverD, hu, Try.ntmps51, Exit.thenS]
  refine wpS_cond (t := false) (by simp [Act.eval, Array.replicate]) ?_
  simp only [Bool.false_eq_true, if_false]
  refine wpS_of_wp (wp_skip ?_)
  cases c₀
  simp_all [bodyPostS, results, Try.results51]
end Go.Proofs.Ytpligbfajnjklaa
end
