/-
  A REGION THAT DRAWS ITS ORDER, some of whose operations only read what no other touches (they are taken first), the others in one forced order (they may write). Over any program.
-/
import Derived.OrdersHeld
import Derived.Laws.CopyRow
import Derived.Laws.Slices
import Derived.Test.YtjnnnnolikbjcaaChain2
import Derived.Test.YtjnnnnolikbjcaaAgg2
import Derived.Test.YtjnnnnolikbjcaaKn
section
namespace Agg
open Go Go.RowKit
section
variable {P : Program} {Q : Exit → Act → World → Prop} {S : World → Prop} {l : List Oper} {l0 : List Value} {ds : List Deferred} {w : World} {o : Oper} {n i d : Nat} {bs : List Bool}

def Held (P : Program) (l : List Oper) (Q : Exit → Act → World → Prop) (S : World → Prop) (n : Nat) (bs : List Bool) (l0 : List Value) (ds : List Deferred) (w : World) : Prop :=
  wpAnyH P .any l.toArray (NoP Q) S n bs.toArray ⟨l0.toArray, ds⟩ w
theorem heldBegin {id : Nat} (n : Nat) (hm : P.follows .mixedOrders = true) (hn : l.length = n) (h : Held P l Q S n (List.replicate n false) l0 ds w.drew) : (Code.region id l.toArray true).wp P Q ⟨l0.toArray, ds⟩ w := by
  refine wp_mono (Q := NoP Q) ?_ (fun e a w q => by cases e <;> first | exact q | exact q.elim)
  refine wp_region_held (S := S) hm ?_
  have e : l.toArray.size = n := by simpa using hn
  rw [e]
  have e2 : (Array.replicate n false) = (List.replicate n false).toArray := by simp
  rw [e2]
  exact h
/-- a reading one is taken first -/
theorem heldTake (hc : (Region.noSelect l.toArray && Region.free .any l.toArray bs.toArray i && (Region.ready .any l.toArray bs.toArray).contains i) = true) (hi : l[i]? = some o) (hg : o.guard = none) (hd : o.dst = some d) {v : Value}
    (hr : ∀ w, S w → (execOp (ev l0) o).run P w = .ok (.value v) w) (hS : S w) (h : Held P l Q S n (bs.set i true) (l0.set d v) ds w) : Held P l Q S (n + 1) bs l0 ds w := by
  simp only [Bool.and_eq_true] at hc
  refine wpAnyH_take (oi := o) (v := v) (by simpa using hi) hc.1.1 hc.1.2 hc.2 (fun c a w h => h) (.inl ⟨wn hg, fun w hw => ?_⟩) hS ?_
  · rw [ev_eq]; exact hr w hw
  · rw [hd, put_eq]
    have : bs.toArray.setIfInBounds i true = (bs.set i true).toArray := by simp
    rw [this]; exact h
/-- the only one that may come up -/
theorem heldOne (hr : Region.ready .any l.toArray bs.toArray = [i]) (hi : l[i]? = some o) (hg : o.guard = none) (hd : o.dst = some d) {v : Value} {w' : World} (hrun : (execOp (ev l0) o).run P w = .ok (.value v) w') (hS : S w')
    (h : Held P l Q S n (bs.set i true) (l0.set d v) ds w') : Held P l Q S (n + 1) bs l0 ds w := by
  refine wpAnyH_all hr (by simp) fun j hj => ?_
  obtain rfl : j = i := by simpa using hj
  unfold wpOp
  have hi' : l.toArray[j]? = some o := by simpa using hi
  simp only [hi']
  rw [if_pos (wn hg)]
  refine .inl ?_
  unfold Oper.wp
  rw [ev_eq, hrun]
  refine ⟨hS, ?_⟩
  rw [hd, put_eq]
  have : bs.toArray.setIfInBounds j true = (bs.set j true).toArray := by simp
  rw [this]; exact h
theorem heldCall {f : FuncId} {fn : Func} (hf : P.funcs[f]? = some fn) (hbody : fn.body.isNone = false) (hname : (fn.name == "runtime.NumGoroutine") = false) {args : List Operand} {ts : Array TypeId}
    (hr : Region.ready .any l.toArray bs.toArray = [i]) (hi : l[i]? = some o) (hg : o.guard = none) (hd : o.dst = some d) (ho : o.op = .call { callee := .value (.func f), args := args.toArray, argTypes := ts })
    (hc : Calls P f (args.map (ev l0)).toArray w fun e w' => ∃ v, e = .returned v ∧ S w' ∧ Held P l Q S n (bs.set i true) (l0.set d v) ds w') : Held P l Q S (n + 1) bs l0 ds w := by
  refine wpAnyH_all hr (by simp) fun j hj => ?_
  obtain rfl : j = i := by simpa using hj
  unfold wpOp
  have hi' : l.toArray[j]? = some o := by simpa using hi
  simp only [hi']
  rw [if_pos (wn hg)]
  refine .inl ?_
  have hrun : (execOp (ev l0) o).run P w = .ok (.enter f (args.map (ev l0)).toArray) w := by
    have n1 : ¬ fn.name = "runtime.NumGoroutine" := by simpa using hname
    have n2 : ¬ fn.body = none := by intro e; rw [e] at hbody; cases hbody
    simp [execOp, ho, resolve, invoke, callFunc, hf, n1, n2, Deferred.ofValue, ev]
  unfold Oper.wp
  rw [ev_eq, hrun]
  refine hc.mono ?_
  rintro e w' ⟨v, rfl, hS, h⟩
  refine ⟨hS, ?_⟩
  rw [hd, put_eq]
  have : bs.toArray.setIfInBounds j true = (bs.set j true).toArray := by simp
  rw [this]; exact h
theorem heldDone (hr : Region.ready .any l.toArray bs.toArray = []) (h : Q .normal ⟨l0.toArray, ds⟩ w) : Held P l Q S n bs l0 ds w := wpAnyH_done (Q := NoP Q) hr (show NoP Q .normal _ _ from h) n
/-- append, the only one that may come up -/
theorem heldAppend {t e : TypeId} {size bytes : Nat} {z : Value} (T : TI P t e size bytes z) (s x : Operand)
    (hr : Region.ready .any l.toArray bs.toArray = [i]) (hi : l[i]? = some o) (hg : o.guard = none) (hd : o.dst = some d) (ho : o.op = .call { callee := .builtin .append, args := #[s, x], argTypes := #[t, t] })
    (base : Nat) {v : Value} {m : Nat} {xs : List Value} (hs : ev l0 s = v) (hown : w.ownsRow base e size v m xs) {xv : Value} {k : Nat} {news : List Value} (hx : ev l0 x = xv) (hsl : SlR w xv size k news)
    (h1 : ∀ u ∈ news, u.oneCell' = true) (h63 : m + k ≤ maxLen) (hbytes : (m + k) * bytes ≤ 140737488355328) (hbase : base ≤ w.heap.size)
    (h : ∀ v' w', w'.ownsRow base e size v' (m + k) (xs ++ news) → w.grownBy w' v.ownBlock → (v'.ownBlock = v.ownBlock ∨ v'.ownBlock = some w.heap.size) → S w' ∧ Held P l Q S n (bs.set i true) (l0.set d v') ds w') : Held P l Q S (n + 1) bs l0 ds w := by
  obtain ⟨v', w', hrun, h2, h3, _⟩ := run_append_sl T o.type w base hown hsl h1 h63 hbytes hbase
  have := h v' w' h2 h3 (append_where T o.type w base hown hsl h1 h63 hbytes hrun)
  exact heldOne hr hi hg hd (by simp [execOp, ho, resolve, hs, hx, invoke, builtin, hrun]) this.1 this.2
/-- a move or an assign -/
theorem run_move {x : Operand} {v : Value} (ho : o.op = .move x) (hx : ev l0 x = v) : (execOp (ev l0) o).run P w = .ok (.value v) w := by simp only [execOp, ho, hx, Sem.run_pure]
theorem run_assign {x : Operand} {v : Value} (ho : o.op = .assign x) (hx : ev l0 x = v) : (execOp (ev l0) o).run P w = .ok (.value v) w := by simp only [execOp, ho, hx, Sem.run_pure]
theorem run_fa {t : TypeId} {x : Operand} {k b f off : Nat} (hf : fieldOff P t k = some off) (ho : o.op = .fieldAddr t x k) (hx : ev l0 x = .pointer (some ⟨b, f, none⟩)) : (execOp (ev l0) o).run P w = .ok (.value (.pointer (some ⟨b, f + off, none⟩))) w := by
  simp only [execOp, ho, hx, run_fieldAt hf w, Sem.run_bind, Result.andThen_ok, Sem.run_pure]
theorem run_ia {t e : TypeId} {sz bytes : Nat} {z : Value} (T : TI P t e sz bytes z) {x y : Operand} {b f len cap : Nat} {k : IntKind} {i : Int} (h0 : 0 ≤ i) (hn : i < len) (ho : o.op = .indexAddr t x y) (hx : ev l0 x = .slice (some ⟨b, f, none⟩) len cap) (hy : ev l0 y = .int k i) :
    (execOp (ev l0) o).run P w = .ok (.value (.pointer (some ⟨b, f + i.toNat * sz, none⟩))) w := by
  obtain ⟨j, hj, _, hs, _⟩ := T.info
  have := run_index_sl T.ht (by rw [hj]; exact congrArg some hs) ⟨b, f, none⟩ len cap k i h0 hn w
  rw [add_none] at this
  simp only [execOp, ho, hx, hy, this, Sem.run_bind, Result.andThen_ok, Sem.run_pure]
theorem run_ld {t : TypeId} {y : Operand} {x : Addr} {v : Value} (ht : oneT P t = true) (ho : o.op = .load t y) (hy : ev l0 y = .pointer (some x)) (hc : w.cell? x = some v) : (execOp (ev l0) o).run P w = .ok (.value v) w := by
  simp only [execOp, ho, hy, Sem.run_bind, run_load_one ht hc, Result.andThen_ok, Sem.run_pure]
theorem run_len {t e : TypeId} (ht : P.underlying t = some (.slice e)) {x : Operand} {y : Option Addr} {m c : Nat} (ho : o.op = .call { callee := .builtin .len, args := #[x], argTypes := #[t] }) (hx : ev l0 x = .slice y m c) : (execOp (ev l0) o).run P w = .ok (.value (.int .i64 (m : Int))) w := by
  simp [execOp, ho, resolve, hx, invoke, builtin, Builtin.len_, goInt, run_underlying ht]
/-- some cells of a block, as a row -/
theorem run_rowB (f m : Nat) (cs' : List Value) {b : Nat} {T : TypeId} {cs : List Value} (H : Blk w b T cs) (hm : (cs.drop f).take m = cs') (hl : cs'.length = m) {t : TypeId} {y : Operand} (ht : aggT P t m = true) (ho : o.op = .load t y) (hy : ev l0 y = .pointer (some ⟨b, f, none⟩)) :
    (execOp (ev l0) o).run P w = .ok (.value (.agg cs'.toArray)) w := by
  simp only [aggT, Bool.and_eq_true, beq_iff_eq] at ht
  obtain ⟨h1, h2⟩ := ht
  cases hu : P.underlying t with
  | none => simp [hu] at h1
  | some d =>
    have hone : oneOf d = false := by cases d <;> simp [hu] at h1 <;> rfl
    have := run_load_at t d cs' ⟨b, f, none⟩ w hu hone (by rw [h2, hl]) (fun i v hi => by
      rw [add_none, H.cell]
      rw [← hm, List.getElem?_take] at hi
      split at hi
      · rwa [List.getElem?_drop] at hi
      · cases hi)
    simp only [execOp, ho, hy, Sem.run_bind, this, Result.andThen_ok, Sem.run_pure]
theorem run_buildSl {t e : TypeId} {m : Nat} {ps : List (Nat × Operand)} (cs : Array Value) (ho : o.op = .buildSlice t m ps.toArray)
    (hr : (Instr.buildSlice t m (ps.map fun p => (p.1, ev l0 p.2)).toArray).run P w = .ok (.slice (some ⟨w.heap.size, 0, none⟩) m m) (w.alloc (.cells cs e))) :
    (execOp (ev l0) o).run P w = .ok (.value (.slice (some ⟨w.heap.size, 0, none⟩) m m)) (w.alloc (.cells cs e)) := by
  have h3 : (ps.toArray.map fun (i, x) => (i, ev l0 x)) = (ps.map fun p => (p.1, ev l0 p.2)).toArray := by rw [List.map_toArray]
  simp only [execOp, ho, h3, Sem.run_bind, hr, Result.andThen_ok, Sem.run_pure]
end
section
variable {n kk : Nat} {P : Program} {l rest : List Oper} {W : World} {l0 : List Value} {ds : List Deferred} {acc : List R} {o : Oper} {fin : List R → Prop}
/-- a row of two cells, wherever it lies -/
theorem chRow2 {u0 u1 : Value} {b f : Nat} {t : TypeId} {y : Operand} (ht : aggT P t 2 = true) (ho : o.op = .load t y) (hy : rd (l.take n) l0 kk acc o y = some (.pointer (some ⟨b, f, none⟩))) (hw : wants kk acc o = some true) (hk : gOk l o = true)
    (h0 : W.cell? ⟨b, f, none⟩ = some u0) (h1 : W.cell? ⟨b, f + 1, none⟩ = some u1)
    (h : ChainR n P l.toArray W ⟨l0.toArray, ds⟩ (kk + 1) ((.pure (.agg #[u0, u1])) :: acc) rest fin) : ChainR n P l.toArray W ⟨l0.toArray, ds⟩ kk acc (o :: rest) fin := by
  simp only [aggT, Bool.and_eq_true, beq_iff_eq] at ht
  obtain ⟨e1, e2⟩ := ht
  cases hu : P.underlying t with
  | none => simp [hu] at e1
  | some d =>
    refine chLoadRow d [u0, u1] ho hy hw hk hu ?_ e2 (fun i v hi => ?_) h
    · cases d <;> simp [hu] at e1 <;> rfl
    · rw [add_none]
      match i, hi with
      | 0, hi => simp only [List.getElem?_cons_zero, Option.some.injEq] at hi; subst hi; exact h0
      | 1, hi => simp only [List.getElem?_cons_succ, List.getElem?_cons_zero, Option.some.injEq] at hi; subst hi; exact h1
end
end Agg
end
section
/-
  COPY AND SLICE EXPRESSIONS, elements of any size, over any program.
-/
namespace Agg
open Go Go.RowKit

theorem min_mul (a b c : Nat) : Nat.min a b * c ≤ a * c := Nat.mul_le_mul_right _ (Nat.min_le_left _ _)
/-- what a row holds behind a copy -/
def spliced (xs : List Value) (off : Nat) (cs : List Value) : List Value := xs.take off ++ cs ++ xs.drop (off + cs.length)
theorem spliced_mid (a b c d : List Value) (n : Nat) (hn : a.length = n) (h : b.length = d.length) : spliced (a ++ b ++ c) n d = a ++ d ++ c := by
  have h1 : (a ++ b ++ c).take n = a := by rw [List.append_assoc, List.take_left' hn]
  have h2 : (a ++ b ++ c).drop (n + d.length) = c := List.drop_left' (by simp [hn, h])
  rw [spliced, h1, h2]
theorem run_copy_own {P : Program} {t t' e : TypeId} {size bytes : Nat} {z : Value} (T : TI P t e size bytes z) (ty : TypeId) (w : World) {base g n cap : Nat} {xs : List Value} (hown : w.ownsRow base e size (.slice (some ⟨g, 0, none⟩) n cap) n xs)
    (off dl dc : Nat) {sv : Value} {m : Nat} {cs : List Value} (hsl : SlR w sv size m cs) (h1 : ∀ u ∈ cs, u.oneCell' = true) (k : Nat) (hk : k = Nat.min m dl) (hoff : off + k ≤ n) :
    ∃ w', (Builtin.copy_ #[t, t'] ty #[.slice (some ⟨g, off * size, none⟩) dl dc, sv]).run P w = .ok (goInt k) w' ∧ w'.ownsRow base e size (.slice (some ⟨g, 0, none⟩) n cap) n (spliced xs (off * size) (cs.take (k * size))) ∧ w.grownBy w' (some g) := by
  obtain ⟨i, hi, hz, hs, hb⟩ := T.info
  rcases hown.2 with ⟨h, _⟩ | ⟨g', cap', cur, hv, hbg, hg, hn, hm, hcs, ht⟩
  · cases h
  simp only [Value.slice.injEq, Option.some.injEq, Addr.mk.injEq, and_true, true_and] at hv
  obtain ⟨rfl, rfl⟩ := hv
  have hkl : (cs.take (k * size)).length = k * size := by
    rw [List.length_take, hsl.1, hk]
    exact Nat.min_eq_left (min_mul _ _ _)
  have hxl := hown.1
  have hfit : off * size + k * size ≤ n * size := by rw [← Nat.add_mul]; exact Nat.mul_le_mul_right _ hoff
  have hncap : n * size ≤ cap * size := Nat.mul_le_mul_right _ hn
  have hst := run_storeCells_at P g (off * size) e (cs.take (k * size)) 0 cur w hg (by rw [hkl, hcs]; omega) (fun u hu => h1 u (List.mem_of_mem_take hu))
  simp only [Nat.add_zero, hkl] at hst
  have hrow : (w.setRow g (cur.toList.take (off * size) ++ cs.take (k * size) ++ cur.toList.drop (off * size + k * size)).toArray).ownsRow base e size (.slice (some ⟨g, 0, none⟩) n cap) n (spliced xs (off * size) (cs.take (k * size))) := by
    refine ⟨?_, .inr ⟨g, cap, _, rfl, hbg, setRow_heap w g cur _ e (0, 0) hg, hn, hm, ?_, ?_⟩⟩
    · simp only [spliced, List.length_append, List.length_drop, hkl, List.length_take, hxl]; omega
    · simp only [List.size_toArray, List.length_append, List.length_drop, hkl, List.length_take, Array.length_toList, hcs]; omega
    · simp only [spliced, ← ht, hkl]
      apply List.ext_getElem?
      intro j
      by_cases h1 : j < off * size
      · rw [List.getElem?_take_of_lt (by omega), List.append_assoc, List.append_assoc, List.getElem?_append_left (by rw [List.length_take, Array.length_toList, hcs]; omega), List.getElem?_append_left (by rw [List.length_take, List.length_take, Array.length_toList, hcs]; omega), List.getElem?_take_of_lt h1, List.getElem?_take_of_lt h1, List.getElem?_take_of_lt (by omega)]
      · have l1 : (cur.toList.take (off * size)).length = off * size := by rw [List.length_take, Array.length_toList, hcs]; omega
        have l2 : ((cur.toList.take (n * size)).take (off * size)).length = off * size := by rw [List.length_take, List.length_take, Array.length_toList, hcs]; omega
        by_cases h2 : j < n * size
        · have e1 : ∀ (B C : List Value), (cur.toList.take (off * size) ++ (B ++ C))[j]? = (B ++ C)[j - off * size]? := fun B C => by rw [List.getElem?_append_right (by omega), l1]
          have e2 : ∀ (B C : List Value), ((cur.toList.take (n * size)).take (off * size) ++ (B ++ C))[j]? = (B ++ C)[j - off * size]? := fun B C => by rw [List.getElem?_append_right (by omega), l2]
          rw [List.getElem?_take_of_lt h2, List.append_assoc, List.append_assoc, e1, e2]
          by_cases h3 : j - off * size < k * size
          · rw [List.getElem?_append_left (by omega), List.getElem?_append_left (by omega)]
          · rw [List.getElem?_append_right (by omega), List.getElem?_append_right (by omega), hkl, List.getElem?_drop, List.getElem?_drop, List.getElem?_take_of_lt (by omega)]
        · rw [List.getElem?_take_eq_none (by omega), List.getElem?_eq_none]
          simp only [List.length_append, List.length_drop, hkl, l2, List.length_take, Array.length_toList, hcs]; omega
  refine ⟨_, ?_, hrow, ⟨rfl, rfl, rfl, by simp, fun j _ hj => setRow_other w g j _ (fun e => hj (by rw [e]))⟩⟩
  rcases hsl.2 with ⟨rfl, rfl⟩ | ⟨x, cap2, rfl, h3, h4, h5⟩
  · have : k = 0 := by rw [hk]; exact Nat.min_eq_left (Nat.zero_le _)
    subst this
    simp only [Nat.zero_mul, List.take_zero, Nat.add_zero, List.append_nil, List.take_append_drop, Array.toArray_toList]
    rw [setRow_self w g cur e (0, 0) hg]
    have : (0 : Nat).min dl = 0 := Nat.min_eq_left (Nat.zero_le _)
    simp [Builtin.copy_, run_underlying T.ht, Builtin.lenOf, Builtin.firstCells, Go.sizeOf, typeInfo, hi, storeCells, this]
  · have hl := run_loadCells_list (P := P) w x (cs.take (k * size)) (fun j u hu => h5 j u (by
      rw [List.getElem?_take] at hu
      split at hu
      · exact hu
      · cases hu))
    rw [hkl, hk] at hl
    rw [hk] at hst
    simp [Builtin.copy_, run_underlying T.ht, Builtin.lenOf, Builtin.firstCells, Go.sizeOf, typeInfo, hi, hl, hs, hst, hk]

section
variable {P : Program} {ops : Array Oper} {rest : List Oper} {o : Oper} {a : Act} {w : World} {Q : Exit → Act → World → Prop}
theorem copy {t t' e : TypeId} {size bytes : Nat} {z : Value} (T : TI P t e size bytes z) (d s : Operand) (hgd : o.guard = none) (ho : o.op = .call { callee := .builtin .copy, args := #[d, s], argTypes := #[t, t'] })
    {base g n cap : Nat} {xs : List Value} (hown : w.ownsRow base e size (.slice (some ⟨g, 0, none⟩) n cap) n xs) (off dl dc : Nat) {fo : Nat} (hd : a.eval d = .slice (some ⟨g, fo, none⟩) dl dc) (hfo : fo = off * size) {sv : Value} (hs : a.eval s = sv) {m : Nat} {cs : List Value}
    (hsl : SlR w sv size m cs) (h1 : ∀ u ∈ cs, u.oneCell' = true) (k : Nat) (hk : k = Nat.min m dl) (hoff : off + k ≤ n)
    (h : ∀ w', Hid (w'.ownsRow base e size (.slice (some ⟨g, 0, none⟩) n cap) n (spliced xs (off * size) (cs.take (k * size)))) → w.grownBy w' (some g) → wpList P ops Q rest (a.put o.dst (.int .i64 k)) w') : wpList P ops Q (o :: rest) a w := by
  subst hfo
  obtain ⟨w', hr, h2, h3⟩ := run_copy_own (t' := t') T o.type w hown off dl dc hsl h1 k hk hoff
  refine run hgd (.int .i64 k) w' ?_ (h w' h2 h3)
  simp [execOp, ho, resolve, hd, hs, invoke, builtin, hr, goInt]
end

theorem own_cap {w : World} {base : Nat} {e : TypeId} {size g n cap : Nat} {xs : List Value} (h : w.ownsRow base e size (.slice (some ⟨g, 0, none⟩) n cap) n xs) : n ≤ cap ∧ cap ≤ maxLen ∧ base ≤ g ∧ g < w.heap.size := by
  rcases h.2 with ⟨h, _⟩ | ⟨g', cap', cur, hv, hbg, hg, hn, hm, hcs, ht⟩
  · cases h
  · simp only [Value.slice.injEq, Option.some.injEq, Addr.mk.injEq, and_true, true_and] at hv
    obtain ⟨rfl, rfl⟩ := hv
    exact ⟨hn, hm, hbg, (Array.getElem?_eq_some_iff.1 hg).1⟩

/-- s[k:] where something is left -/
theorem run_slice_from {P : Program} {t e : TypeId} {size bytes : Nat} {z : Value} (T : TI P t e size bytes z) (b f len cap k : Nat) (hk : k ≤ len) (hlt : k < cap) (w : World) :
    (Instr.sliceAt t (.slice (some ⟨b, f, none⟩) len cap) (some (.int .i64 (k : Int))) none none).run P w = .ok (.slice (some ⟨b, f + k * size, none⟩) (len - k) (cap - k)) w := by
  obtain ⟨i, hi, hz, hs, hb⟩ := T.info
  have h1 : ¬ cap = k := by omega
  simp [Instr.sliceAt, Instr.slice, Instr.sliceBounds, Instr.sliceBound, run_underlying T.ht, asIntOf, hk, Go.sizeOf, typeInfo, hi, hs, h1, add_none]
/-- s[k:m] -/
theorem run_slice_fromto {P : Program} {t e : TypeId} {size bytes : Nat} {z : Value} (T : TI P t e size bytes z) (b f len cap k m : Nat) (hk : k ≤ m) (hc : m ≤ cap) (hlt : k < cap) (w : World) :
    (Instr.sliceAt t (.slice (some ⟨b, f, none⟩) len cap) (some (.int .i64 (k : Int))) (some (.int .i64 (m : Int))) none).run P w = .ok (.slice (some ⟨b, f + k * size, none⟩) (m - k) (cap - k)) w := by
  obtain ⟨i, hi, hz, hs, hb⟩ := T.info
  have h1 : ¬ cap = k := by omega
  simp [Instr.sliceAt, Instr.slice, Instr.sliceBounds, Instr.sliceBound, run_underlying T.ht, asIntOf, hk, hc, Go.sizeOf, typeInfo, hi, hs, h1, add_none]
/-- s[:m] -/
theorem run_slice_upto {P : Program} {t e : TypeId} {size bytes : Nat} {z : Value} (T : TI P t e size bytes z) (x : Option Addr) (len cap m : Nat) (hc : m ≤ cap) (w : World) :
    (Instr.sliceAt t (.slice x len cap) none (some (.int .i64 (m : Int))) none).run P w = .ok (.slice x m cap) w := by
  obtain ⟨i, hi, hz, hs, hb⟩ := T.info
  cases x with
  | none => simp [Instr.sliceAt, Instr.slice, Instr.sliceBounds, Instr.sliceBound, run_underlying T.ht, asIntOf, hc, Go.sizeOf, typeInfo, hi]
  | some a => simp [Instr.sliceAt, Instr.slice, Instr.sliceBounds, Instr.sliceBound, run_underlying T.ht, asIntOf, hc, Go.sizeOf, typeInfo, hi, Addr.add]
end Agg
end
