/-
  A REGION THAT DRAWS ITS ORDER, whose operations may make memory but write none that was there: each operation's result is told by itself ('G i'), and holds on whatever is made beside it. Over any program.
-/
import Derived.Test.YtjnnnnolikbjcaaAgg
section
namespace Agg
open Go Go.RowKit

/-- does operation o come behind operation j? -/
def depB (o : Oper) (j : Nat) : Bool := o.after.any fun e => Region.binds .any e && e.on == j
/-- what an operation may lean on -/
structure Here (ops : Array Oper) (W : World) (a0 : Act) (G : Nat → Value → World → Prop) (o : Oper) (a : Act) (w : World) : Prop where
  below : Below W.heap.size W w
  slot : ∀ t : Nat, (∀ (i : Nat) (oi : Oper), ops[i]? = some oi → oi.dst ≠ some t) → a.tmps[t]? = a0.tmps[t]?
  dep : ∀ (j : Nat) (oj : Oper) (d : Nat), depB o j = true → ops[j]? = some oj → oj.dst = some d → ∃ v, a.tmps[d]? = some v ∧ G j v w
/-- one operation, wherever it comes -/
def StepAt (P : Program) (ops : Array Oper) (Q : Exit → Act → World → Prop) (W : World) (a0 : Act) (G : Nat → Value → World → Prop) (i : Nat) (o : Oper) : Prop :=
  ∀ a w, Here ops W a0 G o a w → if Region.wanted o (yielded ops a.tmps) = true then o.wp P a w (fun a' w' => ∃ v, a' = a.put o.dst v ∧ G i v w' ∧ Below w.heap.size w w') Q else G i undef w
def StepsFrom (P : Program) (ops : Array Oper) (Q : Exit → Act → World → Prop) (W : World) (a0 : Act) (G : Nat → Value → World → Prop) : Nat → List Oper → Prop
  | _, [] => True
  | k, o :: rest => StepAt P ops Q W a0 G k o ∧ StepsFrom P ops Q W a0 G (k + 1) rest
theorem StepsFrom.at {P : Program} {ops : Array Oper} {Q : Exit → Act → World → Prop} {W : World} {a0 : Act} {G : Nat → Value → World → Prop} : ∀ (l : List Oper) (k : Nat), StepsFrom P ops Q W a0 G k l → ∀ (j : Nat) (o : Oper), l[j]? = some o → StepAt P ops Q W a0 G (k + j) o
  | [], _, _, j, o, h => by simp at h
  | o' :: l, k, hs, 0, o, h => by simp at h; subst h; exact hs.1
  | o' :: l, k, hs, j + 1, o, h => by
    have := StepsFrom.at l (k + 1) hs.2 j o (by simpa using h)
    rwa [show k + (j + 1) = k + 1 + j by omega]

/-- edges lead backwards, results lie in slots of their own, within the frame -/
def freeB (ops : Array Oper) (n : Nat) : Bool :=
  (List.range ops.size).all fun i => match ops[i]? with
    | some o => (o.after.all fun e => !Region.binds .any e || decide (e.on < i)) && (match o.dst with
      | some d => decide (d < n) && (List.range ops.size).all fun j => decide (i = j) || (match ops[j]? with | some oj => oj.dst != some d | none => true)
      | none => true)
    | none => true
theorem freeB_spec {ops : Array Oper} {n : Nat} (h : freeB ops n = true) (i : Nat) (o : Oper) (hi : ops[i]? = some o) :
    (∀ e ∈ o.after, Region.binds .any e = true → e.on < i) ∧ ∀ d, o.dst = some d → d < n ∧ ∀ j oj, ops[j]? = some oj → oj.dst = some d → i = j := by
  have hlt : i < ops.size := (Array.getElem?_eq_some_iff.1 hi).1
  have h1 := List.all_eq_true.1 h i (List.mem_range.2 hlt)
  simp only [hi, Bool.and_eq_true] at h1
  refine ⟨fun e he hb => ?_, fun d hd => ?_⟩
  · have h2 := Array.all_eq_true_iff_forall_mem.1 h1.1 e he
    simpa [hb] using h2
  · have h2 := h1.2
    simp only [hd, Bool.and_eq_true, decide_eq_true_eq] at h2
    refine ⟨h2.1, fun j oj hj hjd => ?_⟩
    have hjl : j < ops.size := (Array.getElem?_eq_some_iff.1 hj).1
    have h3 := List.all_eq_true.1 h2.2 j (List.mem_range.2 hjl)
    simp only [hj, hjd, Bool.or_eq_true, decide_eq_true_eq] at h3
    rcases h3 with h3 | h3
    · exact h3
    · simp at h3

structure FInv (ops : Array Oper) (W : World) (a0 : Act) (G : Nat → Value → World → Prop) (listed : Array Bool) (a : Act) (w : World) : Prop where
  below : Below W.heap.size W w
  defers : a.defers = a0.defers
  size : a.tmps.size = a0.tmps.size
  lsize : listed.size = ops.size
  slot : ∀ t : Nat, (∀ (i : Nat) (oi : Oper), ops[i]? = some oi → listed.getD i false = true → oi.dst ≠ some t) → a.tmps[t]? = a0.tmps[t]?
  done : ∀ (j : Nat) (oj : Oper), ops[j]? = some oj → listed.getD j false = true → ∃ v, (∀ d, oj.dst = some d → a.tmps[d]? = some v) ∧ G j v w

theorem put_get (a : Act) (d t : Nat) (v : Value) (hd : d < a.tmps.size) : (a.put (some d) v).tmps[t]? = if d = t then some v else a.tmps[t]? := by
  simp only [Act.put, Array.getElem?_setIfInBounds]
  by_cases h : d = t
  · subst h; simp [hd]
  · simp [h]

theorem free_any {P : Program} {ops : Array Oper} {Q : Exit → Act → World → Prop} {W : World} {a0 : Act} {G : Nat → Value → World → Prop} (hf : freeB ops a0.tmps.size = true)
    (stable : ∀ i v w w', G i v w → Below w.heap.size w w' → G i v w') (steps : ∀ i o, ops[i]? = some o → StepAt P ops Q W a0 G i o)
    (fin : ∀ a w, Below W.heap.size W w → a.defers = a0.defers → a.tmps.size = a0.tmps.size → (∀ t : Nat, (∀ (i : Nat) (oi : Oper), ops[i]? = some oi → oi.dst ≠ some t) → a.tmps[t]? = a0.tmps[t]?) →
      (∀ (j : Nat) (oj : Oper), ops[j]? = some oj → ∃ v, (∀ d, oj.dst = some d → a.tmps[d]? = some v) ∧ G j v w) → Q .normal a w) :
    ∀ (fuel : Nat) (listed : Array Bool) (a : Act) (w : World), FInv ops W a0 G listed a w → (listed.toList.filter (!·)).length ≤ fuel → wpAny P .any ops Q fuel listed a w := by
  have all_done : ∀ (listed : Array Bool) (a : Act) (w : World), FInv ops W a0 G listed a w → Region.ready .any ops listed = [] → Q .normal a w := by
    intro listed a w inv hr
    have hall : ∀ i, i < ops.size → listed.getD i false = true := by
      intro i
      induction i using Nat.strongRecOn with
      | _ i ih =>
        intro hi
        cases hl : listed.getD i false with
        | true => rfl
        | false =>
          exfalso
          have hmem : i ∈ Region.ready .any ops listed := by
            rw [mem_ready]
            refine ⟨?_, ops[i], Array.getElem?_eq_getElem hi, fun e he hb => ?_⟩
            · have : i < listed.size := by rw [inv.lsize]; exact hi
              simp [this] at hl ⊢; exact hl
            · have h1 := (freeB_spec hf i _ (Array.getElem?_eq_getElem hi)).1 e he hb
              exact ih e.on h1 (by omega)
          rw [hr] at hmem
          cases hmem
    refine fin a w inv.below inv.defers inv.size (fun t ht => inv.slot t fun i oi hi _ => ht i oi hi) (fun j oj hj => inv.done j oj hj (hall j (Array.getElem?_eq_some_iff.1 hj).1))
  intro fuel
  induction fuel with
  | zero =>
    intro listed a w inv hl
    have hr : Region.ready .any ops listed = [] := by
      apply List.eq_nil_iff_forall_not_mem.2
      intro i hi
      obtain ⟨h0, o, ho, _⟩ := mem_ready.1 hi
      have hlt : i < listed.size := by rw [inv.lsize]; exact (Array.getElem?_eq_some_iff.1 ho).1
      have hm : false ∈ listed.toList.filter (!·) := by
        rw [List.mem_filter]
        refine ⟨?_, rfl⟩
        simp [hlt] at h0
        rw [← h0]; simp
      have : (listed.toList.filter (!·)) = [] := List.eq_nil_of_length_eq_zero (by omega)
      rw [this] at hm
      cases hm
    exact ⟨hr, all_done listed a w inv hr⟩
  | succ fuel ih =>
    intro listed a w inv hl
    refine ⟨all_done listed a w inv, fun i hi => ?_⟩
    obtain ⟨h0, o, ho, hall⟩ := mem_ready.1 hi
    have hlt : i < listed.size := by rw [inv.lsize]; exact (Array.getElem?_eq_some_iff.1 ho).1
    have hnl : listed.getD i false = false := by simp [hlt] at h0 ⊢; exact h0
    obtain ⟨hed, hds⟩ := freeB_spec hf i o ho
    have here : Here ops W a0 G o a w := by
      refine ⟨inv.below, fun t ht => inv.slot t fun k ok hk _ => ht k ok hk, fun j oj d hdep hj hd => ?_⟩
      obtain ⟨e, he, heb⟩ := Array.any_eq_true'.1 hdep
      simp only [Bool.and_eq_true, beq_iff_eq] at heb
      have hlj := hall e he heb.1
      rw [heb.2] at hlj
      obtain ⟨v, hv, hg⟩ := inv.done j oj hj hlj
      exact ⟨v, hv d hd, hg⟩
    have hst := steps i o ho a w here
    have next : ∀ (v : Value) (w' : World), G i v w' → Below w.heap.size w w' → FInv ops W a0 G (listed.setIfInBounds i true) (a.put o.dst v) w' := by
      intro v w' hg hb
      have hput : ∀ t, (∀ d, o.dst = some d → d ≠ t) → (a.put o.dst v).tmps[t]? = a.tmps[t]? := by
        intro t ht
        cases hd : o.dst with
        | none => rfl
        | some d =>
          have hdl : d < a.tmps.size := by rw [inv.size]; exact (hds d hd).1
          rw [put_get a d t v hdl, if_neg (ht d hd)]
      refine ⟨inv.below.trans (hb.mono inv.below.size), ?_, ?_, by simp [inv.lsize], fun t ht => ?_, fun j oj hj hlj => ?_⟩
      · cases hd : o.dst <;> simp [Act.put, inv.defers]
      · cases hd : o.dst <;> simp [Act.put, inv.size]
      · rw [hput t (fun d hd => by
          intro e
          subst e
          exact ht i o ho (by simp [hlt]) hd)]
        refine inv.slot t fun k ok hk hlk => ht k ok hk ?_
        by_cases hik : i = k
        · subst hik; simp [hlt]
        · rw [getD_set_ne false hik]; exact hlk
      · by_cases hij : i = j
        · subst hij
          have : oj = o := Option.some.inj (hj.symm.trans ho)
          subst this
          refine ⟨v, fun d hd => ?_, hg⟩
          rw [hd, put_get a d d v (by rw [inv.size]; exact (hds d hd).1), if_pos rfl]
        · rw [getD_set_ne false hij] at hlj
          obtain ⟨u, hu, hgu⟩ := inv.done j oj hj hlj
          refine ⟨u, fun d hd => ?_, stable j u w w' hgu hb⟩
          rw [hput d (fun d' hd' e => by
            subst e
            exact hij ((hds d' hd').2 j oj hj hd))]
          exact hu d hd
    have hcount : ((listed.setIfInBounds i true).toList.filter (!·)).length ≤ fuel := by
      have h1 : (listed.setIfInBounds i true).toList = listed.toList.set i true := by simp
      rw [h1]
      have key : ∀ (l : List Bool) (i : Nat), l[i]? = some false → ((l.set i true).filter (!·)).length + 1 = (l.filter (!·)).length := by
        intro l
        induction l with
        | nil => intro i h; simp at h
        | cons b l ih2 =>
          intro i h
          cases i with
          | zero => simp at h; subst h; simp
          | succ i =>
            have := ih2 i (by simpa using h)
            cases b <;> simp at this ⊢ <;> omega
      have h2 := key listed.toList i (by
        simp [hlt] at h0
        rw [Array.getElem?_toList, Array.getElem?_eq_getElem hlt, h0])
      omega
    unfold wpOp
    simp only [ho]
    by_cases hw : Region.wanted o (yielded ops a.tmps) = true
    · rw [if_pos hw] at hst
      rw [if_pos hw]
      refine .inl (Oper.wp_mono ?_ hst)
      rintro a' w' ⟨v, rfl, hg, hb⟩
      exact ih _ _ _ (next v w' hg hb) hcount
    · rw [if_neg hw] at hst
      rw [if_neg hw]
      exact ih _ _ _ (next undef w hst (Below.refl _ _)) hcount
/-- the frame behind such a region -/
def setAll : List Oper → Nat → (Nat → Value) → List Value → List Value
  | [], _, _, l0 => l0
  | o :: rest, k, vs, l0 => match o.dst with
    | some d => (setAll rest (k + 1) vs l0).set d (vs k)
    | none => setAll rest (k + 1) vs l0
theorem setAll_length (l : List Oper) (k : Nat) (vs : Nat → Value) (l0 : List Value) : (setAll l k vs l0).length = l0.length := by
  induction l generalizing k with
  | nil => rfl
  | cons o rest ih => unfold setAll; split <;> simp [ih]
theorem setAll_none (l : List Oper) (k : Nat) (vs : Nat → Value) (l0 : List Value) (t : Nat) (h : ∀ (j : Nat) (o : Oper), l[j]? = some o → o.dst ≠ some t) : (setAll l k vs l0)[t]? = l0[t]? := by
  induction l generalizing k with
  | nil => rfl
  | cons o rest ih =>
    have hr := ih (k + 1) (fun j o' hj => h (j + 1) o' (by simpa using hj))
    unfold setAll
    split
    · rename_i d hd
      rw [List.getElem?_set, if_neg (fun e => h 0 o rfl (by rw [hd, e]))]
      exact hr
    · exact hr
theorem setAll_some (l : List Oper) (k : Nat) (vs : Nat → Value) (l0 : List Value) (t : Nat) (ht : t < l0.length) : ∀ (j : Nat) (o : Oper), l[j]? = some o → o.dst = some t →
    (∀ (i : Nat) (oi : Oper), l[i]? = some oi → oi.dst = some t → i = j) → (setAll l k vs l0)[t]? = some (vs (k + j)) := by
  induction l generalizing k with
  | nil => intro j o h; simp at h
  | cons o' rest ih =>
    intro j o hj hd hu
    cases j with
    | zero =>
      simp at hj
      subst hj
      unfold setAll
      simp only [hd]
      rw [List.getElem?_set, if_pos rfl, if_pos (by rw [setAll_length]; exact ht)]
      rfl
    | succ j =>
      have hr := ih (k + 1) j o (by simpa using hj) hd (fun i oi hi hdi => by
        have := hu (i + 1) oi (by simpa using hi) hdi
        omega)
      unfold setAll
      split
      · rename_i d hd'
        rw [List.getElem?_set, if_neg (fun e => by
          have := hu 0 o' rfl (by rw [hd', e])
          omega), hr]
        congr 2; omega
      · rw [hr]; congr 2; omega

theorem free {P : Program} {Q : Exit → Act → World → Prop} {id : Nat} {l : List Oper} {l0 : List Value} {ds : List Deferred} {w : World} (G : Nat → Value → World → Prop) (hm : P.follows .mixedOrders = true) (hf : freeB l.toArray l0.length = true)
    (stable : ∀ i v w w', G i v w → Below w.heap.size w w' → G i v w')
    (steps : ∀ Q', StepsFrom P l.toArray Q' w.drew ⟨l0.toArray, ds⟩ G 0 l)
    (fin : ∀ (vs : Nat → Value) (w' : World), Below w.heap.size w w' → (∀ (j : Nat) (oj : Oper), l[j]? = some oj → G j (vs j) w') → Q .normal ⟨(setAll l 0 vs l0).toArray, ds⟩ w') :
    (Code.region id l.toArray true).wp P Q ⟨l0.toArray, ds⟩ w := by
  refine wp_region_any hm ?_
  have hf' : freeB l.toArray (Act.mk l0.toArray ds).tmps.size = true := by simpa using hf
  refine free_any (W := w.drew) (a0 := ⟨l0.toArray, ds⟩) (G := G) hf' stable (fun i o hi => by
    have := StepsFrom.at l 0 (steps Q) i o (by simpa using hi)
    simpa using this) ?_ _ _ _ _ ?_ (by simp)
  · intro a w' hb hd hs hslot hdone
    have hch : ∃ vs : Nat → Value, ∀ (j : Nat) (oj : Oper), l[j]? = some oj → (∀ d, oj.dst = some d → a.tmps[d]? = some (vs j)) ∧ G j (vs j) w' := by
      have each : ∀ j : Nat, ∃ v : Value, ∀ oj : Oper, l[j]? = some oj → (∀ d, oj.dst = some d → a.tmps[d]? = some v) ∧ G j v w' := by
        intro j
        cases hj : l[j]? with
        | none => exact ⟨undef, fun oj h => by cases h⟩
        | some o =>
          obtain ⟨v, h1, h2⟩ := hdone j o (by simpa using hj)
          exact ⟨v, fun oj h => by cases h; exact ⟨h1, h2⟩⟩
      exact ⟨fun j => Classical.choose (each j), fun j => Classical.choose_spec (each j)⟩
    obtain ⟨vs, hvs⟩ := hch
    have ha : a = ⟨(setAll l 0 vs l0).toArray, ds⟩ := by
      cases a with
      | mk tmps defers =>
        simp only at hd
        subst hd
        congr 1
        apply Array.ext_getElem?
        intro t
        by_cases hex : ∃ (j : Nat) (oj : Oper), l[j]? = some oj ∧ oj.dst = some t
        · obtain ⟨j, oj, hj, hdj⟩ := hex
          have hsp := freeB_spec hf j oj (by simpa using hj)
          obtain ⟨htl, huniq⟩ := hsp.2 t hdj
          rw [(hvs j oj hj).1 t hdj]
          have := setAll_some l 0 vs l0 t htl j oj hj hdj (fun i oi hi hdi => (huniq i oi (by simpa using hi) hdi).symm)
          simp only [List.getElem?_toArray, this, Nat.zero_add]
        · have hno : ∀ (j : Nat) (o : Oper), l[j]? = some o → o.dst ≠ some t := fun j o hj hd => hex ⟨j, o, hj, hd⟩
          have h1 := hslot t (fun i oi hi => hno i oi (by simpa using hi))
          simp only at h1
          rw [h1]
          simp only [List.getElem?_toArray, setAll_none l 0 vs l0 t hno]
    rw [ha]
    exact fin vs w' ⟨hb.os, hb.tape, hb.output, hb.size, hb.block⟩ (fun j oj hj => (hvs j oj hj).2)
  · refine ⟨Below.refl _ _, rfl, rfl, by simp, fun t _ => rfl, fun j oj hj hl => ?_⟩
    exfalso
    have hlt : j < l.length := by have := (Array.getElem?_eq_some_iff.1 hj).1; simpa using this
    simp [hlt] at hl
def noDst (ops : Array Oper) (t : Nat) : Bool := ops.all fun o => o.dst != some t
section
variable {P : Program} {ops : Array Oper} {Q : Exit → Act → World → Prop} {W : World} {a0 : Act} {G : Nat → Value → World → Prop} {o : Oper} {a : Act} {w : World}
theorem Here.old (h : Here ops W a0 G o a w) (t : Nat) (hn : noDst ops t = true) {v : Value} (hv : a0.tmps[t]? = some v) : a.eval (.tmp t) = v := by
  have h1 := h.slot t (fun i oi hi hd => by
    have := Array.all_eq_true_iff_forall_mem.1 hn oi (Array.mem_of_getElem? hi)
    simp [hd] at this)
  rw [hv] at h1
  simp [Act.eval, h1]
theorem Here.got (h : Here ops W a0 G o a w) (j d : Nat) (hd : depB o j = true) (hj : (ops[j]?).map (·.dst) = some (some d)) : ∃ v, a.eval (.tmp d) = v ∧ G j v w ∧ a.tmps[d]? = some v := by
  cases ho : ops[j]? with
  | none => simp [ho] at hj
  | some oj =>
    have hdj : oj.dst = some d := by simpa [ho] using hj
    obtain ⟨v, hv, hg⟩ := h.dep j oj d hd ho hdj
    exact ⟨v, by simp [Act.eval, hv], hg, hv⟩
/-- an operation that is not guarded, whose run is known -/
theorem stepRun {i : Nat} (hg : o.guard = none) (v : Value) (w' : World) (hr : (execOp a.eval o).run P w = .ok (.value v) w') (hG : G i v w') (hb : Below w.heap.size w w') :
    if Region.wanted o (yielded ops a.tmps) = true then o.wp P a w (fun a' w' => ∃ v, a' = a.put o.dst v ∧ G i v w' ∧ Below w.heap.size w w') Q else G i undef w := by
  rw [if_pos (wn hg)]
  unfold Oper.wp
  rw [hr]
  exact ⟨v, rfl, hG, hb⟩
theorem stepMove {i : Nat} (hg : o.guard = none) {x : Operand} (ho : o.op = .move x) {v : Value} (hx : a.eval x = v) (hG : G i v w) :
    if Region.wanted o (yielded ops a.tmps) = true then o.wp P a w (fun a' w' => ∃ v, a' = a.put o.dst v ∧ G i v w' ∧ Below w.heap.size w w') Q else G i undef w :=
  stepRun hg v w (by simp only [execOp, ho, hx, Sem.run_pure]) hG (Below.refl _ _)
theorem stepAssign {i : Nat} (hg : o.guard = none) {x : Operand} (ho : o.op = .assign x) {v : Value} (hx : a.eval x = v) (hG : G i v w) :
    if Region.wanted o (yielded ops a.tmps) = true then o.wp P a w (fun a' w' => ∃ v, a' = a.put o.dst v ∧ G i v w' ∧ Below w.heap.size w w') Q else G i undef w :=
  stepRun hg v w (by simp only [execOp, ho, hx, Sem.run_pure]) hG (Below.refl _ _)
theorem stepBin {i : Nat} (hg : o.guard = none) {op : BinOp} {t t' : TypeId} {x y : Operand} (ho : o.op = .binOp op t x y t') {vx vy v : Value} (hx : a.eval x = vx) (hy : a.eval y = vy)
    (hgd : (eqGuard op t x y vx vy).run P w = .ok () w) (hr : (binOp op t vx vy).run P w = .ok v w) (hG : G i v w) :
    if Region.wanted o (yielded ops a.tmps) = true then o.wp P a w (fun a' w' => ∃ v, a' = a.put o.dst v ∧ G i v w' ∧ Below w.heap.size w w') Q else G i undef w :=
  stepRun hg v w (by simp only [execOp, ho, hx, hy, Sem.run_bind, hgd, hr, Result.andThen_ok, Sem.run_pure]) hG (Below.refl _ _)
/-- a call of a function of the program -/
theorem stepCall {i : Nat} (hg : o.guard = none) {f : FuncId} {fn : Func} (hf : P.funcs[f]? = some fn) (hbody : fn.body.isNone = false) (hname : (fn.name == "runtime.NumGoroutine") = false) {args : Array Operand} {ts : Array TypeId} (ho : o.op = .call { callee := .value (.func f), args := args, argTypes := ts })
    {vs : Array Value} (hargs : args.map a.eval = vs) (hc : Calls P f vs w fun e w' => ∃ v, e = .returned v ∧ G i v w' ∧ Below w.heap.size w w') :
    if Region.wanted o (yielded ops a.tmps) = true then o.wp P a w (fun a' w' => ∃ v, a' = a.put o.dst v ∧ G i v w' ∧ Below w.heap.size w w') Q else G i undef w := by
  rw [if_pos (wn hg)]
  unfold Oper.wp
  have hr : (execOp a.eval o).run P w = .ok (.enter f vs) w := by
    have n1 : ¬ fn.name = "runtime.NumGoroutine" := by simpa using hname
    have n2 : ¬ fn.body = none := by intro e; rw [e] at hbody; cases hbody
    simp [execOp, ho, resolve, Act.eval, hargs, invoke, callFunc, hf, n1, n2, Deferred.ofValue]
  rw [hr]
  refine hc.mono ?_
  rintro e w' ⟨v, rfl, hG, hb⟩
  exact ⟨v, rfl, hG, hb⟩
/-- an operation behind a guard whose outcome is told -/
theorem stepG {i j d : Nat} {b c : Bool} (hg : o.guard = some (j, b)) (hj : (ops[j]?).map (·.dst) = some (some d)) (hv : a.tmps[d]? = some (.bool c))
    (hrun : c = b → ∃ v w', (execOp a.eval o).run P w = .ok (.value v) w' ∧ G i v w' ∧ Below w.heap.size w w') (hskip : c ≠ b → G i undef w) :
    if Region.wanted o (yielded ops a.tmps) = true then o.wp P a w (fun a' w' => ∃ v, a' = a.put o.dst v ∧ G i v w' ∧ Below w.heap.size w w') Q else G i undef w := by
  have hy : yielded ops a.tmps j = some c := by
    cases ho : ops[j]? with
    | none => simp [ho] at hj
    | some oj =>
      have hdj : oj.dst = some d := by simpa [ho] using hj
      simp [yielded, ho, hdj, hv]
  have hw : Region.wanted o (yielded ops a.tmps) = (c == b) := by
    simp [Region.wanted, hg, hy]
  rw [hw]
  by_cases h : c = b
  · rw [if_pos (by simpa using h)]
    obtain ⟨v, w', hr, hG, hb⟩ := hrun h
    unfold Oper.wp
    rw [hr]
    exact ⟨v, rfl, hG, hb⟩
  · rw [if_neg (by simpa using h)]
    exact hskip h
theorem stepPick {i : Nat} (hg : o.guard = none) {c x y : Operand} (ho : o.op = .pick c x y) {b : Bool} {v : Value} (hc : a.eval c = .bool b) (hv : (bif b then a.eval x else a.eval y) = v) (hG : G i v w) :
    if Region.wanted o (yielded ops a.tmps) = true then o.wp P a w (fun a' w' => ∃ v, a' = a.put o.dst v ∧ G i v w' ∧ Below w.heap.size w w') Q else G i undef w := by
  subst hv
  refine stepRun hg _ w ?_ hG (Below.refl _ _)
  cases b <;> simp [execOp, ho, hc, asBool]
theorem runMove {x : Operand} (ho : o.op = .move x) {v : Value} (hx : a.eval x = v) : (execOp a.eval o).run P w = .ok (.value v) w := by simp only [execOp, ho, hx, Sem.run_pure]
theorem runAdd {t t' : TypeId} {x y : Operand} (ho : o.op = .binOp .add t x y t') {m n : Int} (hx : a.eval x = .int .i64 m) (hy : a.eval y = .int .i64 n) (h0 : -9223372036854775808 ≤ m + n) (h1 : m + n ≤ 9223372036854775807) :
    (execOp a.eval o).run P w = .ok (.value (.int .i64 (m + n))) w := by
  have e : IntKind.i64.wrap (m + n) = m + n := by rw [IntKind.wrap_i64]; omega
  simp only [execOp, ho, hx, hy]
  show (Result.ok (Next.value (.int .i64 (IntKind.i64.wrap (m + n)))) w : Result Next) = _
  rw [e]
theorem runIdx {t e : TypeId} {sz bytes : Nat} {z : Value} (T : TI P t e sz bytes z) {x y : Operand} (ho : o.op = .indexAddr t x y) {b f len cap : Nat} {k : IntKind} {i : Int} (hx : a.eval x = .slice (some ⟨b, f, none⟩) len cap) (hy : a.eval y = .int k i) (h0 : 0 ≤ i) (hn : i < len) :
    (execOp a.eval o).run P w = .ok (.value (.pointer (some ⟨b, f + i.toNat * sz, none⟩))) w := by
  obtain ⟨j, hj, _, hs, _⟩ := T.info
  simp only [execOp, ho, hx, hy, Sem.run_bind, run_index_sl T.ht (by rw [hj]; exact congrArg some hs) _ len cap k i h0 hn, Result.andThen_ok, Sem.run_pure, add_none]
theorem runLoad {t : TypeId} {y : Operand} (ho : o.op = .load t y) {x : Addr} (hy : a.eval y = .pointer (some x)) (ht : oneT P t = true) {v : Value} (hc : w.cell? x = some v) : (execOp a.eval o).run P w = .ok (.value v) w := by
  simp only [execOp, ho, hy, Sem.run_bind, run_load_one ht hc, Result.andThen_ok, Sem.run_pure]
theorem runEql {t t' : TypeId} {x y : Operand} (ho : o.op = .binOp .eql t x y t') {k : IntKind} {m n : Int} (hx : a.eval x = .int k m) (hy : a.eval y = .int k n) {b : Bool} (hb : (m == n) = b) : (execOp a.eval o).run P w = .ok (.value (.bool b)) w := by
  subst hb
  simp only [execOp, ho, hx, hy]
  cases k <;> rfl
end
/-- what lies behind a guard: its value, or none -/
def gv (c : Bool) (v : Value) : Value := bif c then v else undef
end Agg
end
section
/-
  APPEND, once more: where the row lies behind it. Over any program.
-/
namespace Agg
open Go Go.RowKit

theorem append_where {P : Program} {t e : TypeId} {size bytes : Nat} {z : Value} (T : TI P t e size bytes z) (ty : TypeId) (w : World) (base : Nat) {v : Value} {n : Nat} {xs : List Value} (hown : w.ownsRow base e size v n xs)
    {xv : Value} {m : Nat} {news : List Value} (hsl : SlR w xv size m news) (h1 : ∀ u ∈ news, u.oneCell' = true) (h63 : n + m ≤ maxLen) (hbytes : (n + m) * bytes ≤ 140737488355328) {v' : Value} {w' : World}
    (hr : (Builtin.append_ #[t, t] ty #[v, xv]).run P w = .ok v' w') : v'.ownBlock = v.ownBlock ∨ v'.ownBlock = some w.heap.size := by
  obtain ⟨i, hi, hz, hs, hb⟩ := T.info
  have hm' : n + m ≤ 9223372036854775807 := by unfold maxLen at h63; omega
  rcases hsl.2 with ⟨rfl, rfl⟩ | ⟨x, cap, rfl, _, _, h5⟩
  · rw [run_append_owned_none w base t ty e i size T.ht hi v n xs hown] at hr
    cases hr
    exact .inl rfl
  · rcases hown.2 with ⟨rfl, rfl⟩ | ⟨g, cap', cur, rfl, hbg, hg, hnc, hcm, hcs, htake⟩
    · rcases Nat.eq_zero_or_pos m with hm | hm
      · subst hm
        have hn : news = [] := List.eq_nil_of_length_eq_zero (by rw [hsl.1]; simp)
        obtain ⟨v2, w2, hr2, _, _, hnil⟩ := run_append_sl T ty w w.heap.size (World.ownsRow_nil w _ e size) hsl h1 (by simp) (by simp) (Nat.le_refl _)
        rw [hr2] at hr
        cases hr
        exact .inl (by rw [hnil.2 ⟨rfl, rfl⟩])
      · have hrun := run_append_nil (P := P) w t ty e i z T.ht hi hz x m cap news (by rw [hs]; exact hsl.1) h5 hm (by omega) (by rw [hb]; rw [Nat.zero_add] at hbytes; omega)
        rw [hrun] at hr
        cases hr
        exact .inr rfl
    · by_cases hfit : n + m ≤ cap'
      · obtain ⟨w2, hr2, _, _⟩ := run_append_fits (P := P) w base t ty e i size T.ht hi hs g n cap' xs hown x m cap news hsl.1 h5 h1 hfit
        rw [hr2] at hr
        cases hr
        exact .inl rfl
      · have hrun := run_append_grow (P := P) w t ty e i z T.ht hi hz ⟨g, 0, none⟩ n cap' xs (by rw [hs]; exact hown.1) (World.ownsRow.cells (g := g) hown rfl) x m cap news (by rw [hs]; exact hsl.1) h5 (by omega) (by omega)
          (by rw [hb]; exact growslice_fits (by omega) hbytes)
        rw [hrun] at hr
        cases hr
        exact .inr rfl

section
variable {P : Program} {ops : Array Oper} {rest : List Oper} {o : Oper} {a : Act} {w : World} {Q : Exit → Act → World → Prop}
theorem append2 {t e : TypeId} {size bytes : Nat} {z : Value} (T : TI P t e size bytes z) (s x : Operand) (hg : o.guard = none) (ho : o.op = .call { callee := .builtin .append, args := #[s, x], argTypes := #[t, t] })
    (base : Nat) {v : Value} {n : Nat} {xs : List Value} (hs : a.eval s = v) (hown : w.ownsRow base e size v n xs) {xv : Value} {m : Nat} {news : List Value} (hx : a.eval x = xv) (hsl : SlR w xv size m news)
    (h1 : ∀ u ∈ news, u.oneCell' = true) (h63 : n + m ≤ maxLen) (hbytes : (n + m) * bytes ≤ 140737488355328) (hbase : base ≤ w.heap.size)
    (h : ∀ v' w', w'.ownsRow base e size v' (n + m) (xs ++ news) → w.grownBy w' v.ownBlock → (v'.ownBlock = v.ownBlock ∨ v'.ownBlock = some w.heap.size) → wpList P ops Q rest (a.put o.dst v') w') : wpList P ops Q (o :: rest) a w := by
  obtain ⟨v', w', hr, h2, h3, _⟩ := run_append_sl T o.type w base hown hsl h1 h63 hbytes hbase
  refine run hg v' w' ?_ (h v' w' h2 h3 (append_where T o.type w base hown hsl h1 h63 hbytes hr))
  simp [execOp, ho, resolve, hs, hx, invoke, builtin, hr]
end
theorem own_keep {w w' : World} {b : Nat} {e : TypeId} {sz : Nat} {v : Value} {n : Nat} {xs : List Value} (h : w.ownsRow b e sz v n xs) (hb : Below w.heap.size w w') : w'.ownsRow b e sz v n xs := by
  refine ⟨h.1, ?_⟩
  rcases h.2 with h2 | ⟨g, cap, cur, hv, hg, hh, r⟩
  · exact .inl h2
  · exact .inr ⟨g, cap, cur, hv, hg, by rw [hb.block g (Array.getElem?_eq_some_iff.1 hh).1]; exact hh, r⟩
theorem own_mono {w : World} {b b' : Nat} {e : TypeId} {sz : Nat} {v : Value} {n : Nat} {xs : List Value} (h : w.ownsRow b e sz v n xs) (hb : b' ≤ b) : w.ownsRow b' e sz v n xs := by
  refine ⟨h.1, ?_⟩
  rcases h.2 with h2 | ⟨g, cap, cur, hv, hg, r⟩
  · exact .inl h2
  · exact .inr ⟨g, cap, cur, hv, Nat.le_trans hb hg, r⟩
theorem elem_apart {w : World} {b b' : Nat} {e e' : TypeId} {s s' : Nat} {v v' : Value} {n n' : Nat} {xs xs' : List Value} (h : w.ownsRow b e s v n xs) (h' : w.ownsRow b' e' s' v' n' xs') (hne : e ≠ e') : v.ownBlock = none ∨ v.ownBlock ≠ v'.ownBlock := by
  rcases h.2 with ⟨rfl, _⟩ | ⟨g, cap, cur, rfl, _, hg, _⟩
  · exact .inl rfl
  · right
    intro he
    rcases h'.2 with ⟨rfl, _⟩ | ⟨g', cap', cur', rfl, _, hg', _⟩
    · cases he
    · simp only [Value.ownBlock, Option.some.injEq] at he
      subst he
      rw [hg] at hg'
      cases hg'
      exact hne rfl
/-- what reads outside the row that an append may have written reads still -/
theorem SlR.grown {w w' : World} {v : Value} {sz n : Nat} {cs : List Value} {row : Option Nat} (h : SlR w v sz n cs) (hg : w.grownBy w' row) (hne : ∀ k, row = some k → v.ownBlock ≠ some k) : SlR w' v sz n cs := by
  refine ⟨h.1, ?_⟩
  rcases h.2 with h2 | ⟨x, cap, rfl, h3, h4, h5⟩
  · exact .inl h2
  · refine .inr ⟨x, cap, rfl, h3, h4, fun i u hu => ?_⟩
    have hc := h5 i u hu
    have hblk : (x.add i).block = x.block := by unfold Addr.add; split <;> rfl
    refine hg.cell hc ?_
    rw [hblk]
    intro e
    exact hne x.block e.symm rfl
section
variable {P : Program} {ops : Array Oper} {rest : List Oper} {o : Oper} {l : List Value} {ds : List Deferred} {w : World} {Q : Act → Prop} {d : Nat}
theorem stBin {op : BinOp} {t t' : TypeId} {x y : Operand} (ho : o.op = .binOp op t x y t') (hw : Region.wanted o (yielded ops l.toArray) = true) (hd : o.dst = some d) {vx vy v : Value} (hx : ev l x = vx) (hy : ev l y = vy)
    (hg : (eqGuard op t x y vx vy).run P w = .ok () w) (hr : (binOp op t vx vy).run P w = .ok v w) (h : wpStill P ops w Q rest ⟨(l.set d v).toArray, ds⟩) : wpStill P ops w Q (o :: rest) ⟨l.toArray, ds⟩ :=
  stVal hw hd v (by simp only [execOp, ho, hx, hy, Sem.run_bind, hg, hr, Result.andThen_ok, Sem.run_pure]) h
end
theorem run_quo {P : Program} (t : TypeId) (m n : Nat) (hm : m < 9223372036854775808) (hn : 0 < n) (w : World) : (binOp .quo t (.int .i64 (m : Int)) (.int .i64 (n : Int))).run P w = .ok (.int .i64 ((m / n : Nat) : Int)) w := by
  have h0 : ¬ (n : Int) = 0 := by omega
  have h1 : m / n ≤ m := Nat.div_le_self _ _
  have e : IntKind.i64.wrap ((m : Int).tdiv n) = ((m / n : Nat) : Int) := by
    rw [← Int.ofNat_tdiv]
    generalize m / n = q at *
    rw [IntKind.wrap_i64]; omega
  show (if (n : Int) = 0 then _ else _ : Sem Value).run P w = _
  rw [if_neg h0]
  show Result.ok (Value.int .i64 (IntKind.i64.wrap ((m : Int).tdiv n))) w = _
  rw [e]
theorem run_rem {P : Program} (t : TypeId) (m n : Nat) (hn : 0 < n) (w : World) : (binOp .rem t (.int .i64 (m : Int)) (.int .i64 (n : Int))).run P w = .ok (.int .i64 ((m % n : Nat) : Int)) w := by
  have h0 : ¬ (n : Int) = 0 := by omega
  have e : (m : Int).tmod n = ((m % n : Nat) : Int) := by rw [← Int.ofNat_tmod]
  show (if (n : Int) = 0 then _ else _ : Sem Value).run P w = _
  rw [if_neg h0]
  show Result.ok (Value.int .i64 ((m : Int).tmod n)) w = _
  rw [e]
theorem run_shr_u8 {P : Program} (t : TypeId) (m n : Nat) (hn : n < 8) (w : World) : (binOp .shr t (.int .u8 (m : Int)) (.int .i64 (n : Int))).run P w = .ok (.int .u8 ((m / 2 ^ n : Nat) : Int)) w := by
  have h0 : ¬ (n : Int) < 0 := by omega
  have h1 : min (n : Int).toNat 8 = n := by omega
  have e : Int.fdiv (m : Int) (2 ^ n) = ((m / 2 ^ n : Nat) : Int) := by
    have h2 : (0 : Int) ≤ 2 ^ n := Int.pow_nonneg (by decide)
    rw [Int.fdiv_eq_ediv_of_nonneg _ h2, Int.natCast_ediv]; simp
  have hb : min (n : Int).toNat IntKind.u8.bits = n := h1
  simp only [binOp, Op.shift, h0, if_false, hb, Sem.run_pure, e]
theorem run_xor_u8 {P : Program} (t : TypeId) (m n r : Int) (h : bits .xor .u8 m n = r) (w : World) : (binOp .xor t (.int .u8 m) (.int .u8 n)).run P w = .ok (.int .u8 r) w := by
  subst h; rfl
end Agg
end
