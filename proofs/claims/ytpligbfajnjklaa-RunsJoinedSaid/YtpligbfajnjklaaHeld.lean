/-
  A REGION THAT DRAWS ITS ORDER, some of whose operations only read what no other touches (they are taken first), the others in one forced order (they may write). Over any program.
-/
import Derived.OrdersHeld
import Derived.Test.YtpligbfajnjklaaChain2
import Derived.Test.YtpligbfajnjklaaCopy
namespace Agg
open Go Go.RowKit
section
variable {P : Program} {Q : Exit → Act → World → Prop} {S : World → Prop} {l : List Oper} {l0 : List Value} {ds : List Deferred} {w : World} {o : Oper} {n i d : Nat} {bs : List Bool}

def Held (P : Program) (l : List Oper) (Q : Exit → Act → World → Prop) (S : World → Prop) (n : Nat) (bs : List Bool) (l0 : List Value) (ds : List Deferred) (w : World) : Prop :=
  wpAnyH P .any l.toArray (NoP Q) S n bs.toArray ⟨l0.toArray, ds⟩ w
theorem heldBegin {id : Nat} (n : Nat) (hm : P.follows .mixedOrders = true) (hn : l.length = n) (h : Held P l Q S n (List.replicate n false) l0 ds w.drew) : (Code.region id l.toArray true).wp P Q ⟨l0.toArray, ds⟩ w := by
  refine wp_mono (Q := NoP Q) ?_ (fun e a w q => by cases e <;> first | exact q | exact q.elim)
  refine wp_region_held (S := S) hm ?_
  have e : l.toArray.size = n := by simpa using hn
  rw [e]
  have e2 : (Array.replicate n false) = (List.replicate n false).toArray := by simp
  rw [e2]
  exact h
/-- a reading one is taken first -/
theorem heldTake (hc : (Region.noSelect l.toArray && Region.free .any l.toArray bs.toArray i && (Region.ready .any l.toArray bs.toArray).contains i) = true) (hi : l[i]? = some o) (hg : o.guard = none) (hd : o.dst = some d) {v : Value}
    (hr : ∀ w, S w → (execOp (ev l0) o).run P w = .ok (.value v) w) (hS : S w) (h : Held P l Q S n (bs.set i true) (l0.set d v) ds w) : Held P l Q S (n + 1) bs l0 ds w := by
  simp only [Bool.and_eq_true] at hc
  refine wpAnyH_take (oi := o) (v := v) (by simpa using hi) hc.1.1 hc.1.2 hc.2 (fun c a w h => h) (.inl ⟨wn hg, fun w hw => ?_⟩) hS ?_
  · rw [ev_eq]; exact hr w hw
  · rw [hd, put_eq]
    have : bs.toArray.setIfInBounds i true = (bs.set i true).toArray := by simp
    rw [this]; exact h
/-- the only one that may come up -/
theorem heldOne (hr : Region.ready .any l.toArray bs.toArray = [i]) (hi : l[i]? = some o) (hg : o.guard = none) (hd : o.dst = some d) {v : Value} {w' : World} (hrun : (execOp (ev l0) o).run P w = .ok (.value v) w') (hS : S w')
    (h : Held P l Q S n (bs.set i true) (l0.set d v) ds w') : Held P l Q S (n + 1) bs l0 ds w := by
  refine wpAnyH_all hr (by simp) fun j hj => ?_
  obtain rfl : j = i := by simpa using hj
  unfold wpOp
  have hi' : l.toArray[j]? = some o := by simpa using hi
  simp only [hi']
  rw [if_pos (wn hg)]
  refine .inl ?_
  unfold Oper.wp
  rw [ev_eq, hrun]
  refine ⟨hS, ?_⟩
  rw [hd, put_eq]
  have : bs.toArray.setIfInBounds j true = (bs.set j true).toArray := by simp
  rw [this]; exact h
theorem heldCall {f : FuncId} {fn : Func} (hf : P.funcs[f]? = some fn) (hbody : fn.body.isNone = false) (hname : (fn.name == "runtime.NumGoroutine") = false) {args : List Operand} {ts : Array TypeId}
    (hr : Region.ready .any l.toArray bs.toArray = [i]) (hi : l[i]? = some o) (hg : o.guard = none) (hd : o.dst = some d) (ho : o.op = .call { callee := .value (.func f), args := args.toArray, argTypes := ts })
    (hc : Calls P f (args.map (ev l0)).toArray w fun e w' => ∃ v, e = .returned v ∧ S w' ∧ Held P l Q S n (bs.set i true) (l0.set d v) ds w') : Held P l Q S (n + 1) bs l0 ds w := by
  refine wpAnyH_all hr (by simp) fun j hj => ?_
  obtain rfl : j = i := by simpa using hj
  unfold wpOp
  have hi' : l.toArray[j]? = some o := by simpa using hi
  simp only [hi']
  rw [if_pos (wn hg)]
  refine .inl ?_
  have hrun : (execOp (ev l0) o).run P w = .ok (.enter f (args.map (ev l0)).toArray) w := by
    have n1 : ¬ fn.name = "runtime.NumGoroutine" := by simpa using hname
    have n2 : ¬ fn.body = none := by intro e; rw [e] at hbody; cases hbody
    simp [execOp, ho, resolve, invoke, callFunc, hf, n1, n2, Deferred.ofValue, ev]
  unfold Oper.wp
  rw [ev_eq, hrun]
  refine hc.mono ?_
  rintro e w' ⟨v, rfl, hS, h⟩
  refine ⟨hS, ?_⟩
  rw [hd, put_eq]
  have : bs.toArray.setIfInBounds j true = (bs.set j true).toArray := by simp
  rw [this]; exact h
theorem heldDone (hr : Region.ready .any l.toArray bs.toArray = []) (h : Q .normal ⟨l0.toArray, ds⟩ w) : Held P l Q S n bs l0 ds w := wpAnyH_done (Q := NoP Q) hr (show NoP Q .normal _ _ from h) n
/-- append, the only one that may come up -/
theorem heldAppend {t e : TypeId} {size bytes : Nat} {z : Value} (T : TI P t e size bytes z) (s x : Operand)
    (hr : Region.ready .any l.toArray bs.toArray = [i]) (hi : l[i]? = some o) (hg : o.guard = none) (hd : o.dst = some d) (ho : o.op = .call { callee := .builtin .append, args := #[s, x], argTypes := #[t, t] })
    (base : Nat) {v : Value} {m : Nat} {xs : List Value} (hs : ev l0 s = v) (hown : w.ownsRow base e size v m xs) {xv : Value} {k : Nat} {news : List Value} (hx : ev l0 x = xv) (hsl : SlR w xv size k news)
    (h1 : ∀ u ∈ news, u.oneCell' = true) (h63 : m + k ≤ maxLen) (hbytes : (m + k) * bytes ≤ 140737488355328) (hbase : base ≤ w.heap.size)
    (h : ∀ v' w', w'.ownsRow base e size v' (m + k) (xs ++ news) → w.grownBy w' v.ownBlock → (v'.ownBlock = v.ownBlock ∨ v'.ownBlock = some w.heap.size) → S w' ∧ Held P l Q S n (bs.set i true) (l0.set d v') ds w') : Held P l Q S (n + 1) bs l0 ds w := by
  obtain ⟨v', w', hrun, h2, h3, _⟩ := run_append_sl T o.type w base hown hsl h1 h63 hbytes hbase
  have := h v' w' h2 h3 (append_where T o.type w base hown hsl h1 h63 hbytes hrun)
  exact heldOne hr hi hg hd (by simp [execOp, ho, resolve, hs, hx, invoke, builtin, hrun]) this.1 this.2
/-- a move or an assign -/
theorem run_move {x : Operand} {v : Value} (ho : o.op = .move x) (hx : ev l0 x = v) : (execOp (ev l0) o).run P w = .ok (.value v) w := by simp only [execOp, ho, hx, Sem.run_pure]
theorem run_assign {x : Operand} {v : Value} (ho : o.op = .assign x) (hx : ev l0 x = v) : (execOp (ev l0) o).run P w = .ok (.value v) w := by simp only [execOp, ho, hx, Sem.run_pure]
theorem run_fa {t : TypeId} {x : Operand} {k b f off : Nat} (hf : fieldOff P t k = some off) (ho : o.op = .fieldAddr t x k) (hx : ev l0 x = .pointer (some ⟨b, f, none⟩)) : (execOp (ev l0) o).run P w = .ok (.value (.pointer (some ⟨b, f + off, none⟩))) w := by
  simp only [execOp, ho, hx, run_fieldAt hf w, Sem.run_bind, Result.andThen_ok, Sem.run_pure]
theorem run_ia {t e : TypeId} {sz bytes : Nat} {z : Value} (T : TI P t e sz bytes z) {x y : Operand} {b f len cap : Nat} {k : IntKind} {i : Int} (h0 : 0 ≤ i) (hn : i < len) (ho : o.op = .indexAddr t x y) (hx : ev l0 x = .slice (some ⟨b, f, none⟩) len cap) (hy : ev l0 y = .int k i) :
    (execOp (ev l0) o).run P w = .ok (.value (.pointer (some ⟨b, f + i.toNat * sz, none⟩))) w := by
  obtain ⟨j, hj, _, hs, _⟩ := T.info
  have := run_index_sl T.ht (by rw [hj]; exact congrArg some hs) ⟨b, f, none⟩ len cap k i h0 hn w
  rw [add_none] at this
  simp only [execOp, ho, hx, hy, this, Sem.run_bind, Result.andThen_ok, Sem.run_pure]
theorem run_ld {t : TypeId} {y : Operand} {x : Addr} {v : Value} (ht : oneT P t = true) (ho : o.op = .load t y) (hy : ev l0 y = .pointer (some x)) (hc : w.cell? x = some v) : (execOp (ev l0) o).run P w = .ok (.value v) w := by
  simp only [execOp, ho, hy, Sem.run_bind, run_load_one ht hc, Result.andThen_ok, Sem.run_pure]
theorem run_len {t e : TypeId} (ht : P.underlying t = some (.slice e)) {x : Operand} {y : Option Addr} {m c : Nat} (ho : o.op = .call { callee := .builtin .len, args := #[x], argTypes := #[t] }) (hx : ev l0 x = .slice y m c) : (execOp (ev l0) o).run P w = .ok (.value (.int .i64 (m : Int))) w := by
  simp [execOp, ho, resolve, hx, invoke, builtin, Builtin.len_, goInt, run_underlying ht]
/-- some cells of a block, as a row -/
theorem run_rowB (f m : Nat) (cs' : List Value) {b : Nat} {T : TypeId} {cs : List Value} (H : Blk w b T cs) (hm : (cs.drop f).take m = cs') (hl : cs'.length = m) {t : TypeId} {y : Operand} (ht : aggT P t m = true) (ho : o.op = .load t y) (hy : ev l0 y = .pointer (some ⟨b, f, none⟩)) :
    (execOp (ev l0) o).run P w = .ok (.value (.agg cs'.toArray)) w := by
  simp only [aggT, Bool.and_eq_true, beq_iff_eq] at ht
  obtain ⟨h1, h2⟩ := ht
  cases hu : P.underlying t with
  | none => simp [hu] at h1
  | some d =>
    have hone : oneOf d = false := by cases d <;> simp [hu] at h1 <;> rfl
    have := run_load_at t d cs' ⟨b, f, none⟩ w hu hone (by rw [h2, hl]) (fun i v hi => by
      rw [add_none, H.cell]
      rw [← hm, List.getElem?_take] at hi
      split at hi
      · rwa [List.getElem?_drop] at hi
      · cases hi)
    simp only [execOp, ho, hy, Sem.run_bind, this, Result.andThen_ok, Sem.run_pure]
theorem run_buildSl {t e : TypeId} {m : Nat} {ps : List (Nat × Operand)} (cs : Array Value) (ho : o.op = .buildSlice t m ps.toArray)
    (hr : (Instr.buildSlice t m (ps.map fun p => (p.1, ev l0 p.2)).toArray).run P w = .ok (.slice (some ⟨w.heap.size, 0, none⟩) m m) (w.alloc (.cells cs e))) :
    (execOp (ev l0) o).run P w = .ok (.value (.slice (some ⟨w.heap.size, 0, none⟩) m m)) (w.alloc (.cells cs e)) := by
  have h3 : (ps.toArray.map fun (i, x) => (i, ev l0 x)) = (ps.map fun p => (p.1, ev l0 p.2)).toArray := by rw [List.map_toArray]
  simp only [execOp, ho, h3, Sem.run_bind, hr, Result.andThen_ok, Sem.run_pure]
end
section
variable {n kk : Nat} {P : Program} {l rest : List Oper} {W : World} {l0 : List Value} {ds : List Deferred} {acc : List R} {o : Oper} {fin : List R → Prop}
/-- a row of two cells, wherever it lies -/
theorem chRow2 {u0 u1 : Value} {b f : Nat} {t : TypeId} {y : Operand} (ht : aggT P t 2 = true) (ho : o.op = .load t y) (hy : rd (l.take n) l0 kk acc o y = some (.pointer (some ⟨b, f, none⟩))) (hw : wants kk acc o = some true) (hk : gOk l o = true)
    (h0 : W.cell? ⟨b, f, none⟩ = some u0) (h1 : W.cell? ⟨b, f + 1, none⟩ = some u1)
    (h : ChainR n P l.toArray W ⟨l0.toArray, ds⟩ (kk + 1) ((.pure (.agg #[u0, u1])) :: acc) rest fin) : ChainR n P l.toArray W ⟨l0.toArray, ds⟩ kk acc (o :: rest) fin := by
  simp only [aggT, Bool.and_eq_true, beq_iff_eq] at ht
  obtain ⟨e1, e2⟩ := ht
  cases hu : P.underlying t with
  | none => simp [hu] at e1
  | some d =>
    refine chLoadRow d [u0, u1] ho hy hw hk hu ?_ e2 (fun i v hi => ?_) h
    · cases d <;> simp [hu] at e1 <;> rfl
    · rw [add_none]
      match i, hi with
      | 0, hi => simp only [List.getElem?_cons_zero, Option.some.injEq] at hi; subst hi; exact h0
      | 1, hi => simp only [List.getElem?_cons_succ, List.getElem?_cons_zero, Option.some.injEq] at hi; subst hi; exact h1
end
end Agg
