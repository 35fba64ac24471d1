/-
  THE STEPS OF A REGION THAT DRAWS ITS ORDER: one law for each kind of operation. Over any program.
-/
import Derived.Test.YtjnnnnolikbjcaaChain
import Derived.Laws.StructEq
namespace Agg
open Go Go.RowKit

def findD : List Oper → Nat → Nat → Option Nat
  | [], _, _ => none
  | o :: r, t, k => if o.dst == some t then some k else findD r t (k + 1)
theorem findD_none : ∀ (l : List Oper) (t k : Nat), findD l t k = none → ∀ (i : Nat) (o : Oper), l[i]? = some o → o.dst ≠ some t
  | [], _, _, _, i, o, h => by simp at h
  | o' :: r, t, k, hf, i, o, h => by
    unfold findD at hf
    split at hf
    · cases hf
    · rename_i hne
      cases i with
      | zero =>
        simp at h
        subst h
        simpa using hne
      | succ i => exact findD_none r t (k + 1) hf i o (by simpa using h)
theorem findD_some : ∀ (l : List Oper) (t k j : Nat), findD l t k = some j → ∃ i o, j = k + i ∧ l[i]? = some o ∧ o.dst = some t
  | [], _, _, _, h => by simp [findD] at h
  | o' :: r, t, k, j, hf => by
    unfold findD at hf
    split at hf
    · rename_i he
      exact ⟨0, o', by simpa using hf.symm, rfl, by simpa using he⟩
    · obtain ⟨i, o, h1, h2, h3⟩ := findD_some r t (k + 1) j hf
      exact ⟨i + 1, o, by omega, by simpa using h2, h3⟩

/-- does operation o come behind operation j? (by the list) -/
def depL (o : Oper) (j : Nat) : Bool := o.after.toList.any fun e => Region.binds .any e && e.on == j
theorem depL_eq (o : Oper) (j : Nat) : depL o j = depB o j := by simp [depL, depB]
/-- the entry of operation j, the last one first -/
def look (k : Nat) (acc : List R) (j : Nat) : Option R := match k - j with
  | 0 => none
  | m + 1 => acc[m]?
theorem look_eq {k : Nat} {acc : List R} (h : acc.length = k) (j : Nat) : look k acc j = acc.reverse[j]? := by
  unfold look
  split
  · rename_i h0
    rw [List.getElem?_eq_none (by simp; omega)]
  · rename_i m hm
    rw [List.getElem?_reverse (by omega)]
    congr 1; omega
/-- what an operand reads as -/
def rd (hd : List Oper) (l0 : List Value) (k : Nat) (acc : List R) (o : Oper) : Operand → Option Value
  | .tmp t => match findD hd t 0 with
    | none => l0[t]?
    | some j => if depL o j then (match look k acc j with
      | some (.pure v) => some v
      | _ => none) else none
  | .const v => some v
  | .global g => some (.pointer (some ⟨g, 0, none⟩))
  | .func f => some (.func (.func f) #[] #[])
/-- is an operation wanted? -/
def wants (k : Nat) (acc : List R) (o : Oper) : Option Bool := match o.guard with
  | none => some true
  | some (j, b) => if depL o j then (match look k acc j with
    | some (.pure (.bool c)) => some (c == b)
    | some (.pure (.tuple _)) => some false
    | _ => none) else none

/-- what an operation may lean on, the entries the last one first -/
structure HereR (n : Nat) (ops : Array Oper) (W : World) (a0 : Act) (k : Nat) (acc : List R) (o : Oper) (a : Act) (w : World) : Prop where
  len : acc.length = k
  here : HereN n ops W a0 (G acc.reverse) o a w
theorem HereR.below {n : Nat} {ops : Array Oper} {W : World} {a0 : Act} {k : Nat} {acc : List R} {o : Oper} {a : Act} {w : World} (h : HereR n ops W a0 k acc o a w) : Below W.heap.size W w := h.here.below
def ChainR (n : Nat) (P : Program) (ops : Array Oper) (W : World) (a0 : Act) (k : Nat) (acc : List R) (rest : List Oper) (fin : List R → Prop) : Prop := acc.length = k → Chain n P ops W a0 acc.reverse rest fin
section
variable {n kk : Nat} {P : Program} {l rest : List Oper} {W : World} {l0 : List Value} {ds : List Deferred} {acc : List R} {o : Oper} {fin : List R → Prop} {a : Act} {w : World}

theorem HereR.rd (h : HereR n l.toArray W ⟨l0.toArray, ds⟩ kk acc o a w) {x : Operand} {v : Value} (hx : rd (l.take n) l0 kk acc o x = some v) : a.eval x = v := by
  cases x with
  | tmp t =>
    unfold Agg.rd at hx
    simp only at hx
    split at hx
    · rename_i hf
      have h1 := h.here.slot t (fun i oi hi hoi => findD_none _ _ _ hf i oi (by rw [List.getElem?_take_of_lt hi]; simpa using hoi))
      simp only [List.getElem?_toArray, hx] at h1
      simp [Act.eval, h1]
    · rename_i j hf
      split at hx
      · rename_i hd
        rw [depL_eq] at hd
        obtain ⟨i, oj, rfl, hoj, hdj⟩ := findD_some _ _ _ _ hf
        rw [Nat.zero_add] at hx hd
        have hin : i < n := by
          have := (List.getElem?_eq_some_iff.1 hoj).1
          rw [List.length_take] at this; omega
        obtain ⟨u, hu, hg⟩ := h.here.dep i oj t hd (by rw [List.getElem?_take_of_lt hin] at hoj; simpa using hoj) hdj
        unfold G at hg
        split at hx
        · rename_i v' hv'
          rw [look_eq h.len] at hv'
          rw [hv'] at hg
          have : u = v' := hg
          subst this
          simp only [Option.some.injEq] at hx
          subst hx
          simp [Act.eval, hu]
        · cases hx
      · cases hx
  | const v' => simp only [Agg.rd, Option.some.injEq] at hx; subst hx; rfl
  | global g => simp only [Agg.rd, Option.some.injEq] at hx; subst hx; rfl
  | func f => simp only [Agg.rd, Option.some.injEq] at hx; subst hx; rfl
theorem HereR.op (h : HereR n l.toArray W ⟨l0.toArray, ds⟩ kk acc o a w) (j t : Nat) {g : Value → World → Prop} (hd : depL o j = true) (hj : look kk acc j = some (.op g)) (ht : (l[j]?).map (·.dst) = some (some t)) : ∃ v, a.eval (.tmp t) = v ∧ g v w := by
  cases ho : l[j]? with
  | none => simp [ho] at ht
  | some oj =>
    have hdj : oj.dst = some t := by simpa [ho] using ht
    obtain ⟨v, hv, hg⟩ := h.here.dep j oj t (by rw [← depL_eq]; exact hd) (by simpa using ho) hdj
    unfold G at hg
    rw [look_eq h.len] at hj
    rw [hj] at hg
    exact ⟨v, by simp [Act.eval, hv], hg⟩
theorem HereR.wants (h : HereR n l.toArray W ⟨l0.toArray, ds⟩ kk acc o a w) {c : Bool} (hw : wants kk acc o = some c) (hdst : ∀ j b, o.guard = some (j, b) → ((l[j]?).bind (·.dst)).isSome = true) : Region.wanted o (yielded l.toArray a.tmps) = c := by
  unfold Agg.wants at hw
  cases hg : o.guard with
  | none =>
    rw [hg] at hw
    simp only [Option.some.injEq] at hw
    subst hw
    simp [Region.wanted, hg]
  | some gb =>
    obtain ⟨j, b⟩ := gb
    rw [hg] at hw
    simp only at hw
    split at hw
    · rename_i hd
      rw [depL_eq] at hd
      have key : ∀ v, look kk acc j = some (.pure v) → ∃ t oj, l[j]? = some oj ∧ oj.dst = some t ∧ a.tmps[t]? = some v := by
        intro v hc'
        have hs := hdst j b hg
        cases ho : l[j]? with
        | none => simp [ho] at hs
        | some oj =>
          cases hdj : oj.dst with
          | none => simp [ho, hdj] at hs
          | some t =>
            obtain ⟨v', hv, hgv⟩ := h.here.dep j oj t hd (by simpa using ho) hdj
            unfold G at hgv
            rw [look_eq h.len] at hc'
            rw [hc'] at hgv
            have : v' = v := hgv
            subst this
            exact ⟨t, oj, rfl, hdj, hv⟩
      split at hw
      · rename_i c' hc'
        simp only [Option.some.injEq] at hw
        obtain ⟨t, oj, ho, hdj, hv⟩ := key _ hc'
        have hy : yielded l.toArray a.tmps j = some c' := by simp [yielded, ho, hdj, hv]
        simp only [Region.wanted, hg, hy]
        rw [← hw]; rfl
      · rename_i vs hc'
        simp only [Option.some.injEq] at hw
        obtain ⟨t, oj, ho, hdj, hv⟩ := key _ hc'
        have hy : yielded l.toArray a.tmps j = none := by simp [yielded, ho, hdj, hv]
        simp only [Region.wanted, hg, hy]
        rw [← hw]; rfl
      · cases hw
    · cases hw
/-- each guard has a slot -/
def gOk (l : List Oper) (o : Oper) : Bool := match o.guard with
  | none => true
  | some (j, _) => ((l[j]?).bind (·.dst)).isSome
theorem gOk_spec (h : gOk l o = true) : ∀ j b, o.guard = some (j, b) → ((l[j]?).bind (·.dst)).isSome = true := by
  intro j b hg
  unfold gOk at h
  rw [hg] at h
  exact h

/-- an operation that computes a value that is known -/
theorem chPure {v : Value} (hp : pureOp o.op = true) (hw : wants kk acc o = some true) (hk : gOk l o = true)
    (hr : ∀ a w, HereR n l.toArray W ⟨l0.toArray, ds⟩ kk acc o a w → ∀ w', (execOp a.eval o).run P w' = .ok (.value v) w')
    (h : ChainR n P l.toArray W ⟨l0.toArray, ds⟩ (kk + 1) ((.pure v) :: acc) rest fin) : ChainR n P l.toArray W ⟨l0.toArray, ds⟩ kk acc (o :: rest) fin := by
  intro hl
  refine ⟨.pure v, trivial, ?_, by have := h (by simp [hl]); rwa [List.reverse_cons] at this⟩
  rw [if_pos hp]
  intro a w hh0
  have hh : HereR n l.toArray W ⟨l0.toArray, ds⟩ kk acc o a w := ⟨hl, hh0⟩
  exact ⟨v, .inl ⟨hh.wants hw (gOk_spec hk), hr a w hh⟩, rfl⟩
/-- .. a value of which something is known -/
theorem chPureG {g : Value → World → Prop} (hp : pureOp o.op = true) (hw : wants kk acc o = some true) (hk : gOk l o = true) (hst : Stable g)
    (hr : ∀ a w, HereR n l.toArray W ⟨l0.toArray, ds⟩ kk acc o a w → ∃ v, g v w ∧ ∀ w', (execOp a.eval o).run P w' = .ok (.value v) w')
    (h : ChainR n P l.toArray W ⟨l0.toArray, ds⟩ (kk + 1) ((.op g) :: acc) rest fin) : ChainR n P l.toArray W ⟨l0.toArray, ds⟩ kk acc (o :: rest) fin := by
  intro hl
  refine ⟨.op g, hst, ?_, by have := h (by simp [hl]); rwa [List.reverse_cons] at this⟩
  rw [if_pos hp]
  intro a w hh0
  have hh : HereR n l.toArray W ⟨l0.toArray, ds⟩ kk acc o a w := ⟨hl, hh0⟩
  obtain ⟨v, hg, hv⟩ := hr a w hh
  exact ⟨v, .inl ⟨hh.wants hw (gOk_spec hk), hv⟩, hg⟩
/-- an operation behind a guard that does not let it run -/
theorem chSkip (hw : wants kk acc o = some false) (hk : gOk l o = true) (h : ChainR n P l.toArray W ⟨l0.toArray, ds⟩ (kk + 1) ((.pure undef) :: acc) rest fin) : ChainR n P l.toArray W ⟨l0.toArray, ds⟩ kk acc (o :: rest) fin := by
  intro hl
  refine ⟨.pure undef, trivial, ?_, by have := h (by simp [hl]); rwa [List.reverse_cons] at this⟩
  split
  · intro a w hh0
    have hh : HereR n l.toArray W ⟨l0.toArray, ds⟩ kk acc o a w := ⟨hl, hh0⟩
    exact ⟨undef, .inr ⟨hh.wants hw (gOk_spec hk), rfl⟩, rfl⟩
  · intro Q a w hh0
    have hh : HereR n l.toArray W ⟨l0.toArray, ds⟩ kk acc o a w := ⟨hl, hh0⟩
    rw [if_neg (by rw [hh.wants hw (gOk_spec hk)]; decide)]
    rfl
/-- an operation that reads or makes memory -/
theorem chMem {r : R} (hp : pureOp o.op = false) (hw : wants kk acc o = some true) (hk : gOk l o = true) (hst : r.ok)
    (hr : ∀ (Q : Exit → Act → World → Prop) a w, HereR n l.toArray W ⟨l0.toArray, ds⟩ kk acc o a w → o.wp P a w (fun a' w' => ∃ v, a' = a.put o.dst v ∧ r.holds v w' ∧ Below w.heap.size w w') Q)
    (h : ChainR n P l.toArray W ⟨l0.toArray, ds⟩ (kk + 1) ((r) :: acc) rest fin) : ChainR n P l.toArray W ⟨l0.toArray, ds⟩ kk acc (o :: rest) fin := by
  intro hl
  refine ⟨r, hst, ?_, by have := h (by simp [hl]); rwa [List.reverse_cons] at this⟩
  rw [if_neg (by rw [hp]; decide)]
  intro Q a w hh0
  have hh : HereR n l.toArray W ⟨l0.toArray, ds⟩ kk acc o a w := ⟨hl, hh0⟩
  rw [if_pos (hh.wants hw (gOk_spec hk))]
  exact hr Q a w hh
theorem chRun {r : R} (hp : pureOp o.op = false) (hw : wants kk acc o = some true) (hk : gOk l o = true) (hst : r.ok)
    (hr : ∀ a w, HereR n l.toArray W ⟨l0.toArray, ds⟩ kk acc o a w → ∃ v w', (execOp a.eval o).run P w = .ok (.value v) w' ∧ r.holds v w' ∧ Below w.heap.size w w')
    (h : ChainR n P l.toArray W ⟨l0.toArray, ds⟩ (kk + 1) ((r) :: acc) rest fin) : ChainR n P l.toArray W ⟨l0.toArray, ds⟩ kk acc (o :: rest) fin :=
  chMem hp hw hk hst (fun Q a w hh => by
    obtain ⟨v, w', h1, h2, h3⟩ := hr a w hh
    unfold Oper.wp
    rw [h1]
    exact ⟨v, rfl, h2, h3⟩) h
/-- a call of a function of the program, its arguments known or found -/
theorem chCallA {r : R} (hp : pureOp o.op = false) (hw : wants kk acc o = some true) (hk : gOk l o = true) (hst : r.ok) {f : FuncId} {fn : Func} (hf : P.funcs[f]? = some fn) (hbody : fn.body.isNone = false) (hname : (fn.name == "runtime.NumGoroutine") = false)
    {args : Array Operand} {ts : Array TypeId} (ho : o.op = .call { callee := .value (.func f), args := args, argTypes := ts })
    (hc : ∀ a w, HereR n l.toArray W ⟨l0.toArray, ds⟩ kk acc o a w → Calls P f (args.map a.eval) w fun e w' => ∃ v, e = .returned v ∧ r.holds v w' ∧ Below w.heap.size w w')
    (h : ChainR n P l.toArray W ⟨l0.toArray, ds⟩ (kk + 1) ((r) :: acc) rest fin) : ChainR n P l.toArray W ⟨l0.toArray, ds⟩ kk acc (o :: rest) fin :=
  chMem hp hw hk hst (fun Q a w hh => by
    have hr : (execOp a.eval o).run P w = .ok (.enter f (args.map a.eval)) w := by
      have n1 : ¬ fn.name = "runtime.NumGoroutine" := by simpa using hname
      have n2 : ¬ fn.body = none := by intro e; rw [e] at hbody; cases hbody
      simp [execOp, ho, resolve, Act.eval, invoke, callFunc, hf, n1, n2, Deferred.ofValue]
    unfold Oper.wp
    rw [hr]
    refine (hc a w hh).mono ?_
    rintro e w' ⟨v, rfl, hG, hb⟩
    exact ⟨v, rfl, hG, hb⟩) h
end
section
variable {n kk : Nat} {P : Program} {l rest : List Oper} {W : World} {l0 : List Value} {ds : List Deferred} {acc : List R} {o : Oper} {fin : List R → Prop}
/-- what all operands read as -/
def rds (hd : List Oper) (l0 : List Value) (kk : Nat) (acc : List R) (o : Oper) : List Operand → Option (List Value)
  | [] => some []
  | x :: xs => match rd hd l0 kk acc o x, rds hd l0 kk acc o xs with
    | some v, some vs => some (v :: vs)
    | _, _ => none
theorem HereR.rds {a : Act} {w : World} (h : HereR n l.toArray W ⟨l0.toArray, ds⟩ kk acc o a w) : ∀ {xs : List Operand} {vs : List Value}, rds (l.take n) l0 kk acc o xs = some vs → xs.map a.eval = vs
  | [], vs, hx => by simp [Agg.rds] at hx; simp [hx]
  | x :: xs, vs, hx => by
    unfold Agg.rds at hx
    split at hx
    · rename_i v vs' h1 h2
      simp only [Option.some.injEq] at hx
      subst hx
      rw [List.map_cons, h.rd h1, HereR.rds h h2]
    · cases hx
/-- a call, its arguments known, its result known -/
theorem chCall {f : FuncId} {fn : Func} (hf : P.funcs[f]? = some fn) (hbody : fn.body.isNone = false) (hname : (fn.name == "runtime.NumGoroutine") = false)
    {args : List Operand} {ts : Array TypeId} {vs : List Value} {v : Value} (ho : o.op = .call { callee := .value (.func f), args := args.toArray, argTypes := ts }) (hx : rds (l.take n) l0 kk acc o args = some vs)
    (hw : wants kk acc o = some true) (hk : gOk l o = true) (hc : ∀ w, Below W.heap.size W w → Calls P f vs.toArray w fun e w' => e = .returned v ∧ Below w.heap.size w w')
    (h : ChainR n P l.toArray W ⟨l0.toArray, ds⟩ (kk + 1) ((.pure v) :: acc) rest fin) : ChainR n P l.toArray W ⟨l0.toArray, ds⟩ kk acc (o :: rest) fin :=
  chCallA (r := .pure v) (by rw [ho]; rfl) hw hk trivial hf hbody hname ho (fun a w hh => by
    rw [List.map_toArray, hh.rds hx]
    refine (hc w hh.below).mono ?_
    rintro e w' ⟨rfl, hb⟩
    exact ⟨v, rfl, rfl, hb⟩) h
/-- a call, its arguments known, something of its result known -/
theorem chCallG {f : FuncId} {fn : Func} (hf : P.funcs[f]? = some fn) (hbody : fn.body.isNone = false) (hname : (fn.name == "runtime.NumGoroutine") = false)
    {args : List Operand} {ts : Array TypeId} {vs : List Value} (g : Value → World → Prop) (hst : Stable g) (ho : o.op = .call { callee := .value (.func f), args := args.toArray, argTypes := ts }) (hx : rds (l.take n) l0 kk acc o args = some vs)
    (hw : wants kk acc o = some true) (hk : gOk l o = true) (hc : ∀ w, Below W.heap.size W w → Calls P f vs.toArray w fun e w' => ∃ v, e = .returned v ∧ g v w' ∧ Below w.heap.size w w')
    (h : ChainR n P l.toArray W ⟨l0.toArray, ds⟩ (kk + 1) ((.op g) :: acc) rest fin) : ChainR n P l.toArray W ⟨l0.toArray, ds⟩ kk acc (o :: rest) fin :=
  chCallA (r := .op g) (by rw [ho]; rfl) hw hk hst hf hbody hname ho (fun a w hh => by
    rw [List.map_toArray, hh.rds hx]
    exact hc w hh.below) h
theorem chMove {x : Operand} {v : Value} (ho : o.op = .move x) (hx : rd (l.take n) l0 kk acc o x = some v) (hw : wants kk acc o = some true) (hk : gOk l o = true)
    (h : ChainR n P l.toArray W ⟨l0.toArray, ds⟩ (kk + 1) ((.pure v) :: acc) rest fin) : ChainR n P l.toArray W ⟨l0.toArray, ds⟩ kk acc (o :: rest) fin :=
  chPure (by rw [ho]; rfl) hw hk (fun a w hh w' => by simp only [execOp, ho, hh.rd hx, Sem.run_pure]) h
theorem chAssign {x : Operand} {v : Value} (ho : o.op = .assign x) (hx : rd (l.take n) l0 kk acc o x = some v) (hw : wants kk acc o = some true) (hk : gOk l o = true)
    (h : ChainR n P l.toArray W ⟨l0.toArray, ds⟩ (kk + 1) ((.pure v) :: acc) rest fin) : ChainR n P l.toArray W ⟨l0.toArray, ds⟩ kk acc (o :: rest) fin :=
  chPure (by rw [ho]; rfl) hw hk (fun a w hh w' => by simp only [execOp, ho, hh.rd hx, Sem.run_pure]) h
theorem chBin {op : BinOp} {t t' : TypeId} {x y : Operand} {vx vy v : Value} (ho : o.op = .binOp op t x y t') (hx : rd (l.take n) l0 kk acc o x = some vx) (hy : rd (l.take n) l0 kk acc o y = some vy) (hw : wants kk acc o = some true) (hk : gOk l o = true)
    (hg : ∀ w, (eqGuard op t x y vx vy).run P w = .ok () w) (hr : ∀ w, (binOp op t vx vy).run P w = .ok v w)
    (h : ChainR n P l.toArray W ⟨l0.toArray, ds⟩ (kk + 1) ((.pure v) :: acc) rest fin) : ChainR n P l.toArray W ⟨l0.toArray, ds⟩ kk acc (o :: rest) fin :=
  chPure (by rw [ho]; rfl) hw hk (fun a w hh w' => by simp only [execOp, ho, hh.rd hx, hh.rd hy, Sem.run_bind, hg, hr, Result.andThen_ok, Sem.run_pure]) h
theorem chUn {op : UnOp} {t : TypeId} {x : Operand} {vx v : Value} (ho : o.op = .unOp op t x) (hx : rd (l.take n) l0 kk acc o x = some vx) (hw : wants kk acc o = some true) (hk : gOk l o = true)
    (hr : ∀ w, (Op.unary op vx).run P w = .ok v w)
    (h : ChainR n P l.toArray W ⟨l0.toArray, ds⟩ (kk + 1) ((.pure v) :: acc) rest fin) : ChainR n P l.toArray W ⟨l0.toArray, ds⟩ kk acc (o :: rest) fin :=
  chPure (by rw [ho]; rfl) hw hk (fun a w hh w' => by simp only [execOp, ho, hh.rd hx, Sem.run_bind, hr, Result.andThen_ok, Sem.run_pure]) h
theorem chConv {s d : TypeId} {x : Operand} {vx v : Value} (ho : o.op = .convert s d x) (hx : rd (l.take n) l0 kk acc o x = some vx) (hw : wants kk acc o = some true) (hk : gOk l o = true)
    (hr : ∀ w, (convert s d vx).run P w = .ok v w)
    (h : ChainR n P l.toArray W ⟨l0.toArray, ds⟩ (kk + 1) ((.pure v) :: acc) rest fin) : ChainR n P l.toArray W ⟨l0.toArray, ds⟩ kk acc (o :: rest) fin :=
  chPure (by rw [ho]; rfl) hw hk (fun a w hh w' => by simp only [execOp, ho, hh.rd hx, Sem.run_bind, hr, Result.andThen_ok, Sem.run_pure]) h
theorem chFieldAddr {t : TypeId} {x : Operand} {k : Nat} {vx v : Value} (ho : o.op = .fieldAddr t x k) (hx : rd (l.take n) l0 kk acc o x = some vx) (hw : wants kk acc o = some true) (hk : gOk l o = true)
    (hr : ∀ w, (Instr.fieldAt t vx k).run P w = .ok v w)
    (h : ChainR n P l.toArray W ⟨l0.toArray, ds⟩ (kk + 1) ((.pure v) :: acc) rest fin) : ChainR n P l.toArray W ⟨l0.toArray, ds⟩ kk acc (o :: rest) fin :=
  chPure (by rw [ho]; rfl) hw hk (fun a w hh w' => by simp only [execOp, ho, hh.rd hx, Sem.run_bind, hr, Result.andThen_ok, Sem.run_pure]) h
theorem chIdx {t : TypeId} {x y : Operand} {vx vy v : Value} (ho : o.op = .indexAddr t x y) (hx : rd (l.take n) l0 kk acc o x = some vx) (hy : rd (l.take n) l0 kk acc o y = some vy) (hw : wants kk acc o = some true) (hk : gOk l o = true)
    (hr : ∀ w, (Instr.indexAt t vx vy).run P w = .ok v w)
    (h : ChainR n P l.toArray W ⟨l0.toArray, ds⟩ (kk + 1) ((.pure v) :: acc) rest fin) : ChainR n P l.toArray W ⟨l0.toArray, ds⟩ kk acc (o :: rest) fin :=
  chPure (by rw [ho]; rfl) hw hk (fun a w hh w' => by simp only [execOp, ho, hh.rd hx, hh.rd hy, Sem.run_bind, hr, Result.andThen_ok, Sem.run_pure]) h
theorem chExtract {x : Operand} {k : Nat} {vs : Array Value} {v : Value} (ho : o.op = .extract x k) (hx : rd (l.take n) l0 kk acc o x = some (.tuple vs)) (hv : vs[k]? = some v) (hw : wants kk acc o = some true) (hk : gOk l o = true)
    (h : ChainR n P l.toArray W ⟨l0.toArray, ds⟩ (kk + 1) ((.pure v) :: acc) rest fin) : ChainR n P l.toArray W ⟨l0.toArray, ds⟩ kk acc (o :: rest) fin :=
  chPure (by rw [ho]; rfl) hw hk (fun a w hh w' => by simp [execOp, ho, hh.rd hx, Instr.extract, hv]) h
theorem chPick {c x y : Operand} {b : Bool} {v : Value} (ho : o.op = .pick c x y) (hc : rd (l.take n) l0 kk acc o c = some (.bool b)) (hx : rd (l.take n) l0 kk acc o (bif b then x else y) = some v) (hw : wants kk acc o = some true) (hk : gOk l o = true)
    (h : ChainR n P l.toArray W ⟨l0.toArray, ds⟩ (kk + 1) ((.pure v) :: acc) rest fin) : ChainR n P l.toArray W ⟨l0.toArray, ds⟩ kk acc (o :: rest) fin :=
  chPure (by rw [ho]; rfl) hw hk (fun a w hh w' => by
    have h1 := hh.rd hx
    cases b <;> simp only [cond_true, cond_false] at h1 <;> simp [execOp, ho, hh.rd hc, asBool, h1]) h
theorem chField {t : TypeId} {x : Operand} {k : Nat} {vx v : Value} (ho : o.op = .field t x k) (hx : rd (l.take n) l0 kk acc o x = some vx) (hw : wants kk acc o = some true) (hk : gOk l o = true)
    (hr : ∀ w, (Instr.field t vx k).run P w = .ok v w)
    (h : ChainR n P l.toArray W ⟨l0.toArray, ds⟩ (kk + 1) ((.pure v) :: acc) rest fin) : ChainR n P l.toArray W ⟨l0.toArray, ds⟩ kk acc (o :: rest) fin :=
  chPure (by rw [ho]; rfl) hw hk (fun a w hh w' => by simp only [execOp, ho, hh.rd hx, Sem.run_bind, hr, Result.andThen_ok, Sem.run_pure]) h
theorem chIndex {t : TypeId} {x y : Operand} {vx vy v : Value} (ho : o.op = .index t x y) (hx : rd (l.take n) l0 kk acc o x = some vx) (hy : rd (l.take n) l0 kk acc o y = some vy) (hw : wants kk acc o = some true) (hk : gOk l o = true)
    (hr : ∀ w, (Instr.index t vx vy).run P w = .ok v w)
    (h : ChainR n P l.toArray W ⟨l0.toArray, ds⟩ (kk + 1) ((.pure v) :: acc) rest fin) : ChainR n P l.toArray W ⟨l0.toArray, ds⟩ kk acc (o :: rest) fin :=
  chPure (by rw [ho]; rfl) hw hk (fun a w hh w' => by simp only [execOp, ho, hh.rd hx, hh.rd hy, Sem.run_bind, hr, Result.andThen_ok, Sem.run_pure]) h
/-- a struct, or an array, is built of values -/
theorem chBuild {t : TypeId} {ps : List (Nat × Operand)} {vs : List Value} {v : Value} (ho : o.op = .build t ps.toArray) (hx : rds (l.take n) l0 kk acc o (ps.map (·.2)) = some vs) (hw : wants kk acc o = some true) (hk : gOk l o = true)
    (hr : ∀ w, (Instr.build t ((ps.map (·.1)).zip vs).toArray).run P w = .ok v w)
    (h : ChainR n P l.toArray W ⟨l0.toArray, ds⟩ (kk + 1) ((.pure v) :: acc) rest fin) : ChainR n P l.toArray W ⟨l0.toArray, ds⟩ kk acc (o :: rest) fin :=
  chPure (by rw [ho]; rfl) hw hk (fun a w hh w' => by
    have h1 := hh.rds hx
    have h2 : (ps.map fun p => (p.1, a.eval p.2)) = (ps.map (·.1)).zip vs := by
      rw [← h1]
      clear hx h1 ho hr
      induction ps with
      | nil => rfl
      | cons p ps ih => simp [ih]
    have h3 : (ps.toArray.map fun (i, x) => (i, a.eval x)) = ((ps.map (·.1)).zip vs).toArray := by
      rw [← h2, List.map_toArray]
    simp only [execOp, ho, h3, Sem.run_bind, hr, Result.andThen_ok, Sem.run_pure]) h
/-- a slice expression -/
theorem chSlice {t : TypeId} {x : Operand} {lo hi mx : Option Operand} {vx v : Value} (vlo vhi vmx : Option Value) (ho : o.op = .slice t x lo hi mx) (hx : rd (l.take n) l0 kk acc o x = some vx)
    (hlo : lo.bind (rd (l.take n) l0 kk acc o) = vlo) (hhi : hi.bind (rd (l.take n) l0 kk acc o) = vhi) (hmx : mx.bind (rd (l.take n) l0 kk acc o) = vmx) (hsome : (lo.isSome == vlo.isSome && hi.isSome == vhi.isSome && mx.isSome == vmx.isSome) = true)
    (hw : wants kk acc o = some true) (hk : gOk l o = true) (hr : ∀ w, (Instr.sliceAt t vx vlo vhi vmx).run P w = .ok v w)
    (h : ChainR n P l.toArray W ⟨l0.toArray, ds⟩ (kk + 1) ((.pure v) :: acc) rest fin) : ChainR n P l.toArray W ⟨l0.toArray, ds⟩ kk acc (o :: rest) fin :=
  chPure (by rw [ho]; rfl) hw hk (fun a w hh w' => by
    have key : ∀ (y : Option Operand) (vy : Option Value), y.bind (rd (l.take n) l0 kk acc o) = vy → (y.isSome == vy.isSome) = true → y.map a.eval = vy := by
      intro y vy h1 h2
      cases y with
      | none => simpa using h1
      | some y =>
        simp only [Option.bind_some] at h1
        cases vy with
        | none => simp at h2
        | some u => simp [hh.rd h1]
    simp only [Bool.and_eq_true] at hsome
    simp only [execOp, ho, hh.rd hx, key _ _ hlo hsome.1.1, key _ _ hhi hsome.1.2, key _ _ hmx hsome.2, Sem.run_bind, hr, Result.andThen_ok, Sem.run_pure]) h
/-- a builtin that only computes -/
theorem chBuiltin {b : Builtin} {args : List Operand} {ts : Array TypeId} {vs : List Value} {v : Value} (ho : o.op = .call { callee := .builtin b, args := args.toArray, argTypes := ts }) (hx : rds (l.take n) l0 kk acc o args = some vs) (hp : pureOp o.op = true)
    (hw : wants kk acc o = some true) (hk : gOk l o = true) (hr : ∀ w cs, (builtin b ts o.type cs vs.toArray).run P w = .ok (.value v) w)
    (h : ChainR n P l.toArray W ⟨l0.toArray, ds⟩ (kk + 1) ((.pure v) :: acc) rest fin) : ChainR n P l.toArray W ⟨l0.toArray, ds⟩ kk acc (o :: rest) fin :=
  chPure hp hw hk (fun a w hh w' => by
    simp only [execOp, ho, resolve, List.map_toArray, hh.rds hx, Sem.run_bind, Sem.run_pure, Result.andThen_ok, invoke, hr]) h
/-- a cell is loaded -/
theorem chLoad {t : TypeId} {y : Operand} {x : Addr} {v : Value} (ho : o.op = .load t y) (hy : rd (l.take n) l0 kk acc o y = some (.pointer (some x))) (hw : wants kk acc o = some true) (hk : gOk l o = true) (ht : oneT P t = true) (hc : W.cell? x = some v)
    (h : ChainR n P l.toArray W ⟨l0.toArray, ds⟩ (kk + 1) ((.pure v) :: acc) rest fin) : ChainR n P l.toArray W ⟨l0.toArray, ds⟩ kk acc (o :: rest) fin :=
  chRun (r := .pure v) (by rw [ho]; rfl) hw hk trivial (fun a w hh => ⟨v, w, by simp only [execOp, ho, hh.rd hy, Sem.run_bind, run_load_one ht (cell_keep hh.below hc), Result.andThen_ok, Sem.run_pure], rfl, Below.refl _ _⟩) h
/-- a row is loaded -/
theorem chLoadRow {t : TypeId} {y : Operand} {x : Addr} (d : TypeDesc) (cs : List Value) (ho : o.op = .load t y) (hy : rd (l.take n) l0 kk acc o y = some (.pointer (some x))) (hw : wants kk acc o = some true) (hk : gOk l o = true)
    (hu : P.underlying t = some d) (hd : oneOf d = false) (hs : (P.info? t).map (·.size) = some cs.length) (hc : ∀ i v, cs[i]? = some v → W.cell? (x.add i) = some v)
    (h : ChainR n P l.toArray W ⟨l0.toArray, ds⟩ (kk + 1) ((.pure (.agg cs.toArray)) :: acc) rest fin) : ChainR n P l.toArray W ⟨l0.toArray, ds⟩ kk acc (o :: rest) fin :=
  chRun (r := .pure (.agg cs.toArray)) (by rw [ho]; rfl) hw hk trivial (fun a w hh => ⟨.agg cs.toArray, w, by
    simp only [execOp, ho, hh.rd hy, Sem.run_bind, run_load_at t d cs x w hu hd hs (fun i v hi => cell_keep hh.below (hc i v hi)), Result.andThen_ok, Sem.run_pure], rfl, Below.refl _ _⟩) h
/-- a variable is made -/
def NewAt (b0 : Nat) (t : TypeId) (cs : List Value) (v : Value) (w : World) : Prop := ∃ b, v = .pointer (some ⟨b, 0, none⟩) ∧ b0 ≤ b ∧ Blk w b t cs
theorem NewAt.stable (b0 : Nat) (t : TypeId) (cs : List Value) : Stable (NewAt b0 t cs) := fun _ _ _ ⟨b, h1, h2, h3⟩ hb => ⟨b, h1, h2, h3.keep hb⟩
theorem chAlloc {t : TypeId} (z : Array Value) (ho : o.op = .alloc t) (hz : (P.info? t).map (fun i => i.zero.map Value.cells) = some (some z)) (hw : wants kk acc o = some true) (hk : gOk l o = true)
    (h : ChainR n P l.toArray W ⟨l0.toArray, ds⟩ (kk + 1) ((.op (NewAt W.heap.size t z.toList)) :: acc) rest fin) : ChainR n P l.toArray W ⟨l0.toArray, ds⟩ kk acc (o :: rest) fin :=
  chRun (r := .op (NewAt W.heap.size t z.toList)) (by rw [ho]; rfl) hw hk (NewAt.stable _ _ _) (fun a w hh => by
    refine ⟨.pointer (some ⟨w.heap.size, 0, none⟩), w.alloc (.cells z t), ?_, ⟨_, rfl, hh.below.size, Blk.new w t z⟩, (Below.refl _ _).alloc (Nat.le_refl _) _⟩
    cases hq : P.info? t with
    | none => simp [hq] at hz
    | some i =>
      cases hzz : i.zero with
      | none => simp [hq, hzz] at hz
      | some u =>
        have hu : u.cells = z := by simpa [hq, hzz] using hz
        simp [execOp, ho, Instr.alloc, zeroValue, typeInfo, hq, hzz, newVar, newRow, hu]) h
/-- a slice is made of values -/
def NewSl (b0 : Nat) (e : TypeId) (m : Nat) (cs : List Value) (v : Value) (w : World) : Prop := ∃ b, v = .slice (some ⟨b, 0, none⟩) m m ∧ b0 ≤ b ∧ Blk w b e cs
theorem NewSl.stable (b0 : Nat) (e : TypeId) (m : Nat) (cs : List Value) : Stable (NewSl b0 e m cs) := fun _ _ _ ⟨b, h1, h2, h3⟩ hb => ⟨b, h1, h2, h3.keep hb⟩
theorem NewSl.sl {b0 : Nat} {e : TypeId} {m sz : Nat} {cs : List Value} {v : Value} {w : World} (h : NewSl b0 e m cs v w) (hl : cs.length = m * sz) (hm : m ≤ maxLen) : SlR w v sz m cs := by
  obtain ⟨b, rfl, _, h3⟩ := h
  refine ⟨hl, .inr ⟨_, m, rfl, Nat.le_refl _, hm, fun i u hu => ?_⟩⟩
  rw [add_none, Nat.zero_add, h3.cell]; exact hu
theorem chBuildSlice {t e : TypeId} {m : Nat} {ps : List (Nat × Operand)} {vs : List Value} (cs : Array Value) (ho : o.op = .buildSlice t m ps.toArray) (hx : rds (l.take n) l0 kk acc o (ps.map (·.2)) = some vs) (hw : wants kk acc o = some true) (hk : gOk l o = true)
    (hr : ∀ w, (Instr.buildSlice t m ((ps.map (·.1)).zip vs).toArray).run P w = .ok (.slice (some ⟨w.heap.size, 0, none⟩) m m) (w.alloc (.cells cs e)))
    (h : ChainR n P l.toArray W ⟨l0.toArray, ds⟩ (kk + 1) ((.op (NewSl W.heap.size e m cs.toList)) :: acc) rest fin) : ChainR n P l.toArray W ⟨l0.toArray, ds⟩ kk acc (o :: rest) fin :=
  chRun (r := .op (NewSl W.heap.size e m cs.toList)) (by rw [ho]; rfl) hw hk (NewSl.stable _ _ _ _) (fun a w hh => by
    refine ⟨.slice (some ⟨w.heap.size, 0, none⟩) m m, w.alloc (.cells cs e), ?_, ⟨_, rfl, hh.below.size, Blk.new w e cs⟩, (Below.refl _ _).alloc (Nat.le_refl _) _⟩
    have h1 := hh.rds hx
    have h2 : (ps.map fun p => (p.1, a.eval p.2)) = (ps.map (·.1)).zip vs := by
      rw [← h1]
      clear hx h1 ho hr
      induction ps with
      | nil => rfl
      | cons p ps ih => simp [ih]
    have h3 : (ps.toArray.map fun (i, x) => (i, a.eval x)) = ((ps.map (·.1)).zip vs).toArray := by
      rw [← h2, List.map_toArray]
    simp only [execOp, ho, h3, Sem.run_bind, hr, Result.andThen_ok, Sem.run_pure]) h
end
section
variable {n kk : Nat} {P : Program} {l rest : List Oper} {W : World} {l0 : List Value} {ds : List Deferred} {acc : List R} {o : Oper} {fin : List R → Prop}
/-- a comparison of integers -/
theorem chCmp {op : BinOp} {t t' : TypeId} {x y : Operand} {k : IntKind} {m q : Int} {b : Bool} (ho : o.op = .binOp op t x y t') (hx : rd (l.take n) l0 kk acc o x = some (.int k m)) (hy : rd (l.take n) l0 kk acc o y = some (.int k q)) (hw : wants kk acc o = some true) (hk : gOk l o = true)
    (hb : (match op with | .eql => some (m == q) | .neq => some (m != q) | .lss => some (decide (m < q)) | .leq => some (decide (m ≤ q)) | .gtr => some (decide (m > q)) | .geq => some (decide (m ≥ q)) | _ => none) = some b)
    (h : ChainR n P l.toArray W ⟨l0.toArray, ds⟩ (kk + 1) ((.pure (.bool b)) :: acc) rest fin) : ChainR n P l.toArray W ⟨l0.toArray, ds⟩ kk acc (o :: rest) fin := by
  refine chBin ho hx hy hw hk (fun w => ?_) (fun w => ?_) h
  · cases op <;> rfl
  · cases op <;> simp only [Option.some.injEq, reduceCtorEq] at hb <;> subst hb <;> cases k <;> rfl
theorem chEq {t t' : TypeId} {x y : Operand} {k : IntKind} {m q : Int} (b : Bool) (hb : (m == q) = b) (ho : o.op = .binOp .eql t x y t') (hx : rd (l.take n) l0 kk acc o x = some (.int k m)) (hy : rd (l.take n) l0 kk acc o y = some (.int k q)) (hw : wants kk acc o = some true) (hk : gOk l o = true)
    (h : ChainR n P l.toArray W ⟨l0.toArray, ds⟩ (kk + 1) ((.pure (.bool b)) :: acc) rest fin) : ChainR n P l.toArray W ⟨l0.toArray, ds⟩ kk acc (o :: rest) fin := chCmp ho hx hy hw hk (by simp [hb]) h
theorem chNe {t t' : TypeId} {x y : Operand} {k : IntKind} {m q : Int} (b : Bool) (hb : (m != q) = b) (ho : o.op = .binOp .neq t x y t') (hx : rd (l.take n) l0 kk acc o x = some (.int k m)) (hy : rd (l.take n) l0 kk acc o y = some (.int k q)) (hw : wants kk acc o = some true) (hk : gOk l o = true)
    (h : ChainR n P l.toArray W ⟨l0.toArray, ds⟩ (kk + 1) ((.pure (.bool b)) :: acc) rest fin) : ChainR n P l.toArray W ⟨l0.toArray, ds⟩ kk acc (o :: rest) fin := chCmp ho hx hy hw hk (by simp [hb]) h
theorem chLt {t t' : TypeId} {x y : Operand} {k : IntKind} {m q : Int} (b : Bool) (hb : decide (m < q) = b) (ho : o.op = .binOp .lss t x y t') (hx : rd (l.take n) l0 kk acc o x = some (.int k m)) (hy : rd (l.take n) l0 kk acc o y = some (.int k q)) (hw : wants kk acc o = some true) (hk : gOk l o = true)
    (h : ChainR n P l.toArray W ⟨l0.toArray, ds⟩ (kk + 1) ((.pure (.bool b)) :: acc) rest fin) : ChainR n P l.toArray W ⟨l0.toArray, ds⟩ kk acc (o :: rest) fin := chCmp ho hx hy hw hk (by simp [← hb]) h
theorem chLe {t t' : TypeId} {x y : Operand} {k : IntKind} {m q : Int} (b : Bool) (hb : decide (m ≤ q) = b) (ho : o.op = .binOp .leq t x y t') (hx : rd (l.take n) l0 kk acc o x = some (.int k m)) (hy : rd (l.take n) l0 kk acc o y = some (.int k q)) (hw : wants kk acc o = some true) (hk : gOk l o = true)
    (h : ChainR n P l.toArray W ⟨l0.toArray, ds⟩ (kk + 1) ((.pure (.bool b)) :: acc) rest fin) : ChainR n P l.toArray W ⟨l0.toArray, ds⟩ kk acc (o :: rest) fin := chCmp ho hx hy hw hk (by simp [← hb]) h
theorem chGt {t t' : TypeId} {x y : Operand} {k : IntKind} {m q : Int} (b : Bool) (hb : decide (m > q) = b) (ho : o.op = .binOp .gtr t x y t') (hx : rd (l.take n) l0 kk acc o x = some (.int k m)) (hy : rd (l.take n) l0 kk acc o y = some (.int k q)) (hw : wants kk acc o = some true) (hk : gOk l o = true)
    (h : ChainR n P l.toArray W ⟨l0.toArray, ds⟩ (kk + 1) ((.pure (.bool b)) :: acc) rest fin) : ChainR n P l.toArray W ⟨l0.toArray, ds⟩ kk acc (o :: rest) fin := chCmp ho hx hy hw hk (by simp [← hb]) h
theorem chGe {t t' : TypeId} {x y : Operand} {k : IntKind} {m q : Int} (b : Bool) (hb : decide (m ≥ q) = b) (ho : o.op = .binOp .geq t x y t') (hx : rd (l.take n) l0 kk acc o x = some (.int k m)) (hy : rd (l.take n) l0 kk acc o y = some (.int k q)) (hw : wants kk acc o = some true) (hk : gOk l o = true)
    (h : ChainR n P l.toArray W ⟨l0.toArray, ds⟩ (kk + 1) ((.pure (.bool b)) :: acc) rest fin) : ChainR n P l.toArray W ⟨l0.toArray, ds⟩ kk acc (o :: rest) fin := chCmp ho hx hy hw hk (by simp [← hb]) h
theorem chEqB {t t' : TypeId} {x y : Operand} {m q : Bool} (b : Bool) (hu : P.underlying t = some .bool) (hb : (m == q) = b) (ho : o.op = .binOp .eql t x y t') (hx : rd (l.take n) l0 kk acc o x = some (.bool m)) (hy : rd (l.take n) l0 kk acc o y = some (.bool q)) (hw : wants kk acc o = some true) (hk : gOk l o = true)
    (h : ChainR n P l.toArray W ⟨l0.toArray, ds⟩ (kk + 1) ((.pure (.bool b)) :: acc) rest fin) : ChainR n P l.toArray W ⟨l0.toArray, ds⟩ kk acc (o :: rest) fin :=
  chBin ho hx hy hw hk (fun _ => rfl) (fun w => by
    subst hb
    show (do pure (Value.bool (← Op.equal t (.bool m) (.bool q))) : Sem Value).run P w = _
    have h1 : (Op.equal t (.bool m) (.bool q)).run P w = .ok (m == q) w := run_equalIn_bool w 9999 t m q hu
    simp [h1]) h
theorem chNeB {t t' : TypeId} {x y : Operand} {m q : Bool} (b : Bool) (hu : P.underlying t = some .bool) (hb : (m != q) = b) (ho : o.op = .binOp .neq t x y t') (hx : rd (l.take n) l0 kk acc o x = some (.bool m)) (hy : rd (l.take n) l0 kk acc o y = some (.bool q)) (hw : wants kk acc o = some true) (hk : gOk l o = true)
    (h : ChainR n P l.toArray W ⟨l0.toArray, ds⟩ (kk + 1) ((.pure (.bool b)) :: acc) rest fin) : ChainR n P l.toArray W ⟨l0.toArray, ds⟩ kk acc (o :: rest) fin :=
  chBin ho hx hy hw hk (fun _ => rfl) (fun w => by
    subst hb
    show (do pure (Value.bool (!(← Op.equal t (.bool m) (.bool q)))) : Sem Value).run P w = _
    have h1 : (Op.equal t (.bool m) (.bool q)).run P w = .ok (m == q) w := run_equalIn_bool w 9999 t m q hu
    simp only [Sem.run_bind, h1, Result.andThen_ok, Sem.run_pure]; rfl) h
theorem chNot {t : TypeId} {x : Operand} {b : Bool} (ho : o.op = .unOp .not t x) (hx : rd (l.take n) l0 kk acc o x = some (.bool b)) (hw : wants kk acc o = some true) (hk : gOk l o = true)
    (h : ChainR n P l.toArray W ⟨l0.toArray, ds⟩ (kk + 1) ((.pure (.bool (!b))) :: acc) rest fin) : ChainR n P l.toArray W ⟨l0.toArray, ds⟩ kk acc (o :: rest) fin := chUn ho hx hw hk (fun _ => rfl) h
/-- arithmetic of integers, the result wrapped -/
theorem chAr {op : BinOp} {t t' : TypeId} {x y : Operand} {k : IntKind} {m q : Int} {r : Int}
    (ho : o.op = .binOp op t x y t') (hx : rd (l.take n) l0 kk acc o x = some (.int k m)) (hy : rd (l.take n) l0 kk acc o y = some (.int k q)) (hr : (match op with | .add => some (k.wrap (m + q)) | .sub => some (k.wrap (m - q)) | .mul => some (k.wrap (m * q)) | _ => none) = some r) (hw : wants kk acc o = some true) (hk : gOk l o = true)
    (h : ChainR n P l.toArray W ⟨l0.toArray, ds⟩ (kk + 1) ((.pure (.int k r)) :: acc) rest fin) : ChainR n P l.toArray W ⟨l0.toArray, ds⟩ kk acc (o :: rest) fin := by
  refine chBin ho hx hy hw hk (fun w => ?_) (fun w => ?_) h
  · cases op <;> rfl
  · cases op <;> simp only [Option.some.injEq, reduceCtorEq] at hr <;> subst hr <;> cases k <;> rfl
/-- the same of int64, where it fits -/
theorem chAr64 {op : BinOp} {t t' : TypeId} {x y : Operand} {m q : Int} {r : Int}
    (ho : o.op = .binOp op t x y t') (hx : rd (l.take n) l0 kk acc o x = some (.int .i64 m)) (hy : rd (l.take n) l0 kk acc o y = some (.int .i64 q)) (hr : (match op with | .add => some (m + q) | .sub => some (m - q) | .mul => some (m * q) | _ => none) = some r) (h0 : -9223372036854775808 ≤ r) (h1 : r ≤ 9223372036854775807) (hw : wants kk acc o = some true) (hk : gOk l o = true)
    (h : ChainR n P l.toArray W ⟨l0.toArray, ds⟩ (kk + 1) ((.pure (.int .i64 r)) :: acc) rest fin) : ChainR n P l.toArray W ⟨l0.toArray, ds⟩ kk acc (o :: rest) fin := by
  have e : IntKind.i64.wrap r = r := by rw [IntKind.wrap_i64]; omega
  refine chAr ho hx hy ?_ hw hk h
  cases op <;> simp only [Option.some.injEq, reduceCtorEq] at hr <;> subst hr <;> rw [e]
theorem chQuo {t t' : TypeId} {x y : Operand} {k : IntKind} {m q : Int} (r : Int) (ho : o.op = .binOp .quo t x y t') (hx : rd (l.take n) l0 kk acc o x = some (.int k m)) (hy : rd (l.take n) l0 kk acc o y = some (.int k q)) (hq : q ≠ 0) (hr : k.wrap (m.tdiv q) = r) (hw : wants kk acc o = some true) (hk : gOk l o = true)
    (h : ChainR n P l.toArray W ⟨l0.toArray, ds⟩ (kk + 1) ((.pure (.int k r)) :: acc) rest fin) : ChainR n P l.toArray W ⟨l0.toArray, ds⟩ kk acc (o :: rest) fin :=
  chBin ho hx hy hw hk (fun w => rfl) (fun w => by
    subst hr
    have : (binOp .quo t (.int k m) (.int k q)).run P w = (Op.intDiv .quo k m q).run P w := by cases k <;> rfl
    rw [this]; simp [Op.intDiv, hq]) h
theorem chRem {t t' : TypeId} {x y : Operand} {k : IntKind} {m q : Int} (r : Int) (ho : o.op = .binOp .rem t x y t') (hx : rd (l.take n) l0 kk acc o x = some (.int k m)) (hy : rd (l.take n) l0 kk acc o y = some (.int k q)) (hq : q ≠ 0) (hr : m.tmod q = r) (hw : wants kk acc o = some true) (hk : gOk l o = true)
    (h : ChainR n P l.toArray W ⟨l0.toArray, ds⟩ (kk + 1) ((.pure (.int k r)) :: acc) rest fin) : ChainR n P l.toArray W ⟨l0.toArray, ds⟩ kk acc (o :: rest) fin :=
  chBin ho hx hy hw hk (fun w => rfl) (fun w => by
    subst hr
    have : (binOp .rem t (.int k m) (.int k q)).run P w = (Op.intDiv .rem k m q).run P w := by cases k <;> rfl
    rw [this]; simp [Op.intDiv, hq]) h
/-- an integer as one of another kind -/
theorem chInt {s d : TypeId} {x : Operand} {k k' : IntKind} {m : Int} (r : Int) (hr : k'.wrap m = r) (hs : (P.underlying s).isSome = true) (hd : P.underlying d = some (.int k')) (ho : o.op = .convert s d x) (hx : rd (l.take n) l0 kk acc o x = some (.int k m)) (hw : wants kk acc o = some true) (hk : gOk l o = true)
    (h : ChainR n P l.toArray W ⟨l0.toArray, ds⟩ (kk + 1) ((.pure (.int k' r)) :: acc) rest fin) : ChainR n P l.toArray W ⟨l0.toArray, ds⟩ kk acc (o :: rest) fin :=
  chConv ho hx hw hk (fun w => by
    subst hr
    cases hu : P.underlying s with
    | none => simp [hu] at hs
    | some du => simp [convert, run_underlying hu, run_underlying hd, Conv.intToInt]) h
theorem chMin2 {x y : Operand} {ts : Array TypeId} {k k' : IntKind} {m q : Int} (r : Int) (hr : min m q = r) (ho : o.op = .call { callee := .builtin .min, args := #[x, y], argTypes := ts }) (hx : rd (l.take n) l0 kk acc o x = some (.int k m)) (hy : rd (l.take n) l0 kk acc o y = some (.int k' q)) (hw : wants kk acc o = some true) (hk : gOk l o = true)
    (h : ChainR n P l.toArray W ⟨l0.toArray, ds⟩ (kk + 1) ((.pure (.int k r)) :: acc) rest fin) : ChainR n P l.toArray W ⟨l0.toArray, ds⟩ kk acc (o :: rest) fin :=
  chPure (by rw [ho]; rfl) hw hk (fun a w hh w' => by subst hr; simp [execOp, ho, resolve, hh.rd hx, hh.rd hy, invoke, builtin, run_min]) h
theorem chMax2 {x y : Operand} {ts : Array TypeId} {k k' : IntKind} {m q : Int} (r : Int) (hr : max m q = r) (ho : o.op = .call { callee := .builtin .max, args := #[x, y], argTypes := ts }) (hx : rd (l.take n) l0 kk acc o x = some (.int k m)) (hy : rd (l.take n) l0 kk acc o y = some (.int k' q)) (hw : wants kk acc o = some true) (hk : gOk l o = true)
    (h : ChainR n P l.toArray W ⟨l0.toArray, ds⟩ (kk + 1) ((.pure (.int k r)) :: acc) rest fin) : ChainR n P l.toArray W ⟨l0.toArray, ds⟩ kk acc (o :: rest) fin :=
  chPure (by rw [ho]; rfl) hw hk (fun a w hh w' => by subst hr; simp [execOp, ho, resolve, hh.rd hx, hh.rd hy, invoke, builtin, run_max]) h
theorem chLen {t e : TypeId} (ht : P.underlying t = some (.slice e)) {x : Operand} {y : Option Addr} {m c : Nat} (ho : o.op = .call { callee := .builtin .len, args := #[x], argTypes := #[t] }) (hx : rd (l.take n) l0 kk acc o x = some (.slice y m c)) (hw : wants kk acc o = some true) (hk : gOk l o = true)
    (h : ChainR n P l.toArray W ⟨l0.toArray, ds⟩ (kk + 1) ((.pure (.int .i64 (m : Int))) :: acc) rest fin) : ChainR n P l.toArray W ⟨l0.toArray, ds⟩ kk acc (o :: rest) fin :=
  chPure (by rw [ho]; rfl) hw hk (fun a w hh w' => by simp [execOp, ho, resolve, hh.rd hx, invoke, builtin, Builtin.len_, goInt, run_underlying ht]) h
/-- a field's place -/
def fieldOff (P : Program) (t : TypeId) (k : Nat) : Option Nat := match P.underlying t with
  | some (.struct fs) => match fs[k]? with
    | some f => match P.info? f.type with
      | some i => if i.size = 0 then none else some f.offset
      | none => none
    | none => none
  | _ => none
theorem run_fieldAt {P : Program} {t : TypeId} {k b f off : Nat} (hf : fieldOff P t k = some off) (w : World) : (Instr.fieldAt t (.pointer (some ⟨b, f, none⟩)) k).run P w = .ok (.pointer (some ⟨b, f + off, none⟩)) w := by
  unfold fieldOff at hf
  split at hf
  · rename_i fs hu
    split at hf
    · rename_i fd hk
      split at hf
      · rename_i i hi
        split at hf
        · cases hf
        · rename_i hz
          simp only [Option.some.injEq] at hf
          simp [Instr.fieldAt, run_underlying hu, hk, Instr.sureAddr, fieldPlace, Go.sizeOf, typeInfo, hi, hz, hf, add_none]
      · cases hf
    · cases hf
  · cases hf
theorem chFA {t : TypeId} {x : Operand} {k b f off : Nat} (hf : fieldOff P t k = some off) (ho : o.op = .fieldAddr t x k) (hx : rd (l.take n) l0 kk acc o x = some (.pointer (some ⟨b, f, none⟩))) (hw : wants kk acc o = some true) (hk : gOk l o = true)
    (h : ChainR n P l.toArray W ⟨l0.toArray, ds⟩ (kk + 1) ((.pure (.pointer (some ⟨b, f + off, none⟩))) :: acc) rest fin) : ChainR n P l.toArray W ⟨l0.toArray, ds⟩ kk acc (o :: rest) fin := chFieldAddr ho hx hw hk (fun w => run_fieldAt hf w) h
/-- an element's place -/
theorem chIA {t e : TypeId} {sz bytes : Nat} {z : Value} (T : TI P t e sz bytes z) {x y : Operand} {b f len cap : Nat} {k : IntKind} {i : Int} (h0 : 0 ≤ i) (hn : i < len) (ho : o.op = .indexAddr t x y) (hx : rd (l.take n) l0 kk acc o x = some (.slice (some ⟨b, f, none⟩) len cap)) (hy : rd (l.take n) l0 kk acc o y = some (.int k i))
    (hw : wants kk acc o = some true) (hk : gOk l o = true)
    (h : ChainR n P l.toArray W ⟨l0.toArray, ds⟩ (kk + 1) ((.pure (.pointer (some ⟨b, f + i.toNat * sz, none⟩))) :: acc) rest fin) : ChainR n P l.toArray W ⟨l0.toArray, ds⟩ kk acc (o :: rest) fin := by
  obtain ⟨j, hj, _, hs, _⟩ := T.info
  exact chIdx ho hx hy hw hk (fun w => by
    have := run_index_sl T.ht (by rw [hj]; exact congrArg some hs) ⟨b, f, none⟩ len cap k i h0 hn w
    rwa [add_none] at this) h
/-- out of a block that is known -/
theorem chLoadB {b i : Nat} {t' : TypeId} {cs : List Value} (H : Blk W b t' cs) {t : TypeId} {y : Operand} {v : Value} (ht : oneT P t = true) (ho : o.op = .load t y) (hy : rd (l.take n) l0 kk acc o y = some (.pointer (some ⟨b, i, none⟩))) (hv : cs[i]? = some v) (hw : wants kk acc o = some true) (hk : gOk l o = true)
    (h : ChainR n P l.toArray W ⟨l0.toArray, ds⟩ (kk + 1) ((.pure v) :: acc) rest fin) : ChainR n P l.toArray W ⟨l0.toArray, ds⟩ kk acc (o :: rest) fin :=
  chLoad ho hy hw hk ht ((H.cell i).trans hv) h
def aggT (P : Program) (t : TypeId) (m : Nat) : Bool := (match P.underlying t with
  | some (.struct _) | some (.array _ _) => true
  | _ => false) && (P.info? t).map (·.size) == some m
theorem chRowB (m : Nat) {b : Nat} {t' : TypeId} {cs : List Value} (H : Blk W b t' cs) (hm : cs.length = m) {t : TypeId} {y : Operand} (ht : aggT P t m = true) (ho : o.op = .load t y) (hy : rd (l.take n) l0 kk acc o y = some (.pointer (some ⟨b, 0, none⟩))) (hw : wants kk acc o = some true) (hk : gOk l o = true)
    (h : ChainR n P l.toArray W ⟨l0.toArray, ds⟩ (kk + 1) ((.pure (.agg cs.toArray)) :: acc) rest fin) : ChainR n P l.toArray W ⟨l0.toArray, ds⟩ kk acc (o :: rest) fin := by
  subst hm
  simp only [aggT, Bool.and_eq_true, beq_iff_eq] at ht
  obtain ⟨h1, h2⟩ := ht
  cases hu : P.underlying t with
  | none => simp [hu] at h1
  | some d =>
    refine chLoadRow d cs ho hy hw hk hu ?_ h2 (fun i v hi => ?_) h
    · cases d <;> simp [hu] at h1 <;> rfl
    · rw [add_none, Nat.zero_add]; exact (H.cell i).trans hi
end
/-- a region that draws its order, in the order of the text -/
theorem chainR {P : Program} {Q : Exit → Act → World → Prop} {id : Nat} {l : List Oper} {l0 : List Value} {ds : List Deferred} {w : World} (n : Nat) (hm : P.follows .mixedOrders = true) (hB : chB l.toArray n l0.length = true)
    (h : ChainR n P l.toArray w ⟨l0.toArray, ds⟩ 0 [] (l.take n) fun acc => ∀ (vs : Nat → Value) (w' : World), Below w.heap.size w w' → Facts acc vs 0 w' → wpList P l.toArray (NoP Q) (l.drop n) ⟨(fill (l.take n) acc vs 0 l0).toArray, ds⟩ w') :
    (Code.region id l.toArray true).wp P Q ⟨l0.toArray, ds⟩ w := chain n hm hB (h rfl)
/-- a region that does not draw -/
theorem listR {P : Program} {Q : Exit → Act → World → Prop} {id : Nat} {l : List Oper} {l0 : List Value} {ds : List Deferred} {w : World} (n : Nat) (hB : (freeB l.toArray l0.length && decide (n ≤ l.length)) = true)
    (h : ChainR n P l.toArray w ⟨l0.toArray, ds⟩ 0 [] (l.take n) fun acc => ∀ (vs : Nat → Value) (w' : World), Below w.heap.size w w' → Facts acc vs 0 w' → wpList P l.toArray Q (l.drop n) ⟨(fill (l.take n) acc vs 0 l0).toArray, ds⟩ w') :
    (Code.region id l.toArray false).wp P Q ⟨l0.toArray, ds⟩ w := chainL n hB (h rfl)
/-- the head's end -/
theorem chEnd {n k : Nat} {P : Program} {ops : Array Oper} {W : World} {a0 : Act} {acc : List R} {fin : List R → Prop} (h : fin acc.reverse) : ChainR n P ops W a0 k acc [] fin := fun _ => h
/-- the region's end: nothing is left -/
theorem wpNil {P : Program} {ops : Array Oper} {Q : Exit → Act → World → Prop} {a : Act} {w : World} (h : Q .normal a w) : wpList P ops (NoP Q) [] a w := h
section
variable {n kk : Nat} {P : Program} {l rest : List Oper} {W : World} {l0 : List Value} {ds : List Deferred} {acc : List R} {o : Oper} {fin : List R → Prop}
/-- a call whose one argument is something of which something is known -/
theorem chCall1 {f : FuncId} {fn : Func} (hf : P.funcs[f]? = some fn) (hbody : fn.body.isNone = false) (hname : (fn.name == "runtime.NumGoroutine") = false) {t : Nat} {ts : Array TypeId} (v : Value) (j : Nat) {g : Value → World → Prop}
    (ho : o.op = .call { callee := .value (.func f), args := #[.tmp t], argTypes := ts }) (hd : depL o j = true) (hj : look kk acc j = some (.op g)) (ht : (l[j]?).map (·.dst) = some (some t)) (hw : wants kk acc o = some true) (hk : gOk l o = true)
    (hc : ∀ u w, Below W.heap.size W w → g u w → Calls P f #[u] w fun e w' => e = .returned v ∧ Below w.heap.size w w')
    (h : ChainR n P l.toArray W ⟨l0.toArray, ds⟩ (kk + 1) ((.pure v) :: acc) rest fin) : ChainR n P l.toArray W ⟨l0.toArray, ds⟩ kk acc (o :: rest) fin :=
  chCallA (r := .pure v) (by rw [ho]; rfl) hw hk trivial hf hbody hname ho (fun a w hh => by
    obtain ⟨u, hu, hg⟩ := hh.op j t hd hj ht
    have e : (#[Operand.tmp t].map a.eval) = #[u] := by simp [hu]
    rw [e]
    refine (hc u w hh.below hg).mono ?_
    rintro e w' ⟨rfl, hb⟩
    exact ⟨v, rfl, rfl, hb⟩) h
end
section
variable {P : Program} {ops : Array Oper} {rest : List Oper} {o : Oper} {a : Act} {w : World} {Q : Exit → Act → World → Prop}
theorem Blk.row {w : World} {g : Nat} {t : TypeId} {cs : List Value} (h : Blk w g t cs) (ds : List Value) : Blk (w.setRow g ds.toArray) g t ds := setRow_heap w g cs.toArray ds.toArray t (0, 0) h
/-- a row is stored over a whole block -/
theorem tStore {t : TypeId} {x y : Operand} {b : Nat} {T : TypeId} {z cs : List Value} (m : Nat) (H : Blk w b T z) (hg : o.guard = none) (hd : o.dst = none) (ho : o.op = .store t x y) (hx : a.eval x = .pointer (some ⟨b, 0, none⟩)) (hy : a.eval y = .agg cs.toArray)
    (ht : aggT P t m = true) (hz : z.length = m) (hc : cs.length = m) (h1 : ∀ v ∈ cs, v.oneCell' = true) (h : ∀ w', Blk w' b T cs → w.grownBy w' (some b) → wpList P ops Q rest a w') : wpList P ops Q (o :: rest) a w := by
  simp only [aggT, Bool.and_eq_true, beq_iff_eq] at ht
  refine storeRow t T z.toArray cs.toArray b x y hg ho hx hy H (by rw [ht.2, ← hc]; simp) (by simp [hz, hc]) (by simpa using h1) (by
    have := h _ (H.row cs) ⟨rfl, rfl, rfl, by simp, fun k _ hk => setRow_other w b k _ (fun e => hk (by rw [e]))⟩
    rw [hd]; exact this)
theorem tAssign {l : List Value} {ds : List Deferred} {d : Nat} {x : Operand} (hg : o.guard = none) (hd : o.dst = some d) (ho : o.op = .assign x) (h : wpList P ops Q rest ⟨(l.set d (ev l x)).toArray, ds⟩ w) : wpList P ops Q (o :: rest) ⟨l.toArray, ds⟩ w :=
  run hg (ev l x) w (by simp only [execOp, ho, ev_eq, Sem.run_pure]) (by rw [hd, put_eq]; exact h)
theorem Blk.grown {w w' : World} {g : Nat} {t : TypeId} {cs : List Value} {b : Nat} (h : Blk w g t cs) (hg : w.grownBy w' (some b)) (hne : g ≠ b) : Blk w' g t cs := (hg.block g h.lt (by simpa using hne)).trans h
theorem bel_grown {w w1 w2 : World} {b : Nat} (h : Below w.heap.size w w1) (hg : w1.grownBy w2 (some b)) (hb : w.heap.size ≤ b) : Below w.heap.size w w2 := h.trans (grown_below hg h.size (fun k hk => by cases hk; exact hb))
end
end Agg
