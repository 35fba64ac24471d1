/-
  A REGION THAT DRAWS ITS ORDER, walked in the order of the text: first operations that read, compute, call or make memory (nothing old is written), then, behind all of these, operations one after the other. Over any program.
-/
import Derived.Test.YtjnnnnolikbjcaaAgg2
import Derived.Test.YtjnnnnolikbjcaaKn
namespace Agg
open Go Go.RowKit

/-- what an operation has yielded: a value that is known, or one of which something is known -/
inductive R where
  | pure (v : Value)
  | op (g : Value → World → Prop)
def R.holds : R → Value → World → Prop
  | .pure x, v, _ => v = x
  | .op g, v, w => g v w
def Stable (g : Value → World → Prop) : Prop := ∀ v w w', g v w → Below w.heap.size w w' → g v w'
def R.ok : R → Prop
  | .pure _ => True
  | .op g => Stable g
theorem R.stable {r : R} (h : r.ok) {v : Value} {w w' : World} (hv : r.holds v w) (hb : Below w.heap.size w w') : r.holds v w' := by
  cases r with
  | pure x => exact hv
  | op g => exact h v w w' hv hb

/-- operations that only compute -/
def pureOp : Op → Bool
  | .move _ | .assign _ | .pick _ _ _ | .build _ _ | .binOp _ _ _ _ _ | .unOp _ _ _ | .convert _ _ _ | .slice _ _ _ _ _ | .fieldAddr _ _ _ | .field _ _ _ | .indexAddr _ _ _ | .index _ _ _ | .extract _ _ => true
  | .call c => match c.callee with
    | .builtin .len | .builtin .cap | .builtin .min | .builtin .max => true
    | _ => false
  | _ => false

def G (acc : List R) (i : Nat) (v : Value) (w : World) : Prop := match acc[i]? with
  | some r => r.holds v w
  | none => True

/-- what an operation of the first n may lean on -/
structure HereN (n : Nat) (ops : Array Oper) (W : World) (a0 : Act) (G : Nat → Value → World → Prop) (o : Oper) (a : Act) (w : World) : Prop where
  below : Below W.heap.size W w
  slot : ∀ t : Nat, (∀ (i : Nat) (oi : Oper), i < n → ops[i]? = some oi → oi.dst ≠ some t) → a.tmps[t]? = a0.tmps[t]?
  dep : ∀ (j : Nat) (oj : Oper) (d : Nat), depB o j = true → ops[j]? = some oj → oj.dst = some d → ∃ v, a.tmps[d]? = some v ∧ G j v w

/-- one operation that only computes -/
def StepP (n : Nat) (P : Program) (ops : Array Oper) (W : World) (a0 : Act) (acc : List R) (o : Oper) (r : R) : Prop :=
  ∀ a w, HereN n ops W a0 (G acc) o a w → ∃ v, Yields P ops o v a ∧ r.holds v w
/-- one other operation -/
def StepM (n : Nat) (P : Program) (ops : Array Oper) (W : World) (a0 : Act) (acc : List R) (o : Oper) (r : R) : Prop :=
  ∀ (Q : Exit → Act → World → Prop) a w, HereN n ops W a0 (G acc) o a w → if Region.wanted o (yielded ops a.tmps) = true then o.wp P a w (fun a' w' => ∃ v, a' = a.put o.dst v ∧ r.holds v w' ∧ Below w.heap.size w w') Q else r.holds undef w

def Chain (n : Nat) (P : Program) (ops : Array Oper) (W : World) (a0 : Act) : List R → List Oper → (List R → Prop) → Prop
  | acc, [], fin => fin acc
  | acc, o :: rest, fin => ∃ r : R, r.ok ∧ (if pureOp o.op = true then StepP n P ops W a0 acc o r else StepM n P ops W a0 acc o r) ∧ Chain n P ops W a0 (acc ++ [r]) rest fin

theorem Chain.all {n : Nat} {P : Program} {ops : Array Oper} {W : World} {a0 : Act} {fin : List R → Prop} : ∀ (rest : List Oper) (acc : List R), Chain n P ops W a0 acc rest fin →
    ∃ more : List R, more.length = rest.length ∧ fin (acc ++ more) ∧ ∀ (j : Nat) (o : Oper), rest[j]? = some o → ∃ r, more[j]? = some r ∧ r.ok ∧ (if pureOp o.op = true then StepP n P ops W a0 (acc ++ more.take j) o r else StepM n P ops W a0 (acc ++ more.take j) o r)
  | [], acc, h => ⟨[], rfl, by rw [List.append_nil]; exact h, fun j o hj => by simp at hj⟩
  | o :: rest, acc, ⟨r, hr, hs, h⟩ => by
    obtain ⟨more, hl, hf, hm⟩ := Chain.all rest _ h
    refine ⟨r :: more, by simp [hl], by simpa using hf, fun j o' hj => ?_⟩
    cases j with
    | zero =>
      simp only [List.getElem?_cons_zero, Option.some.injEq] at hj
      subst hj
      exact ⟨r, rfl, hr, by simpa using hs⟩
    | succ j =>
      obtain ⟨r', h1, h2, h3⟩ := hm j o' (by simpa using hj)
      exact ⟨r', by simpa using h1, h2, by simpa using h3⟩

/-- the first n operations are all listed, no other one -/
def headListed (n m : Nat) : Array Bool := ((List.replicate n true) ++ (List.replicate m false)).toArray
theorem headListed_get (n m j : Nat) (h : j < n) : (headListed n m).getD j false = true := by
  rw [headListed, Array.getD_eq_getD_getElem?, List.getElem?_toArray, List.getElem?_append_left (by simpa using h)]; simp [h]
/-- what a region must be like -/
def deps (ops : Array Oper) (j : Nat) : List Nat := match ops[j]? with
  | some o => (o.after.toList.filter (Region.binds .any ·)).map (·.on)
  | none => []
/-- what must have come up ahead of those of acc, looked for below j -/
def anc (ops : Array Oper) : Nat → List Nat → List Nat
  | 0, acc => acc
  | j + 1, acc => anc ops j (if acc.contains j then deps ops j ++ acc else acc)
def Closed (ops : Array Oper) (listed : Array Bool) : Prop := ∀ (j : Nat) (oj : Oper), ops[j]? = some oj → listed.getD j false = true → ∀ e ∈ oj.after, Region.binds .any e = true → listed.getD e.on false = true
theorem Closed.next {ops : Array Oper} {listed : Array Bool} (h : Closed ops listed) {i : Nat} (hi : i ∈ Region.ready .any ops listed) : Closed ops (listed.setIfInBounds i true) := by
  intro j oj hj hl e he hb
  have keep : ∀ k, listed.getD k false = true → (listed.setIfInBounds i true).getD k false = true := by
    intro k hk
    by_cases hik : i = k
    · subst hik
      have hlt : i < listed.size := by
        apply Classical.byContradiction
        intro hge
        simp [Array.getD, hge] at hk
      simp [hlt]
    · rw [getD_set_ne false hik]; exact hk
  obtain ⟨_, o', ho', hall⟩ := mem_ready.1 hi
  by_cases hij : i = j
  · subst hij
    have : o' = oj := Option.some.inj (ho'.symm.trans hj)
    subst this
    exact keep _ (hall e he hb)
  · rw [getD_set_ne false hij] at hl
    exact keep _ (h j oj hj hl e he hb)
theorem anc_listed {ops : Array Oper} {listed : Array Bool} (h : Closed ops listed) : ∀ (j : Nat) (acc : List Nat), (∀ i ∈ acc, listed.getD i false = true) → ∀ i ∈ anc ops j acc, listed.getD i false = true
  | 0, acc, ha, i, hi => ha i hi
  | j + 1, acc, ha, i, hi => by
    unfold anc at hi
    refine anc_listed h j _ ?_ i hi
    intro k hk
    split at hk
    · rename_i hc
      rcases List.mem_append.1 hk with hk | hk
      · unfold deps at hk
        split at hk
        · rename_i o ho
          obtain ⟨e, he, rfl⟩ := List.mem_map.1 hk
          have := List.mem_filter.1 he
          exact h j o ho (ha j (by simpa using hc)) e (by simpa using this.1) this.2
        · cases hk
      · exact ha k hk
    · exact ha k hk
theorem anc_ready {ops : Array Oper} {listed : Array Bool} (h : Closed ops listed) {n i : Nat} (hc : (anc ops n (deps ops n)).contains i = true) (hn : n ∈ Region.ready .any ops listed) : listed.getD i false = true := by
  refine anc_listed h n (deps ops n) ?_ i (by simpa using hc)
  intro k hk
  obtain ⟨_, o', ho', hall⟩ := mem_ready.1 hn
  unfold deps at hk
  rw [ho'] at hk
  obtain ⟨e, he, rfl⟩ := List.mem_map.1 hk
  have := List.mem_filter.1 he
  exact hall e (by simpa using this.1) this.2
def chB (ops : Array Oper) (n fr : Nat) : Bool :=
  freeB ops fr && Region.noSelect ops && decide (n ≤ ops.size) && Region.chainB .any ops n && Region.seqB .any ops (ops.size - n) n (headListed n (ops.size - n)) &&
  ((List.range n).all fun i => match ops[i]? with
    | some o => if pureOp o.op then (List.range ops.size).all fun j => decide (j = i) || Region.waitsFor .any ops j i || Region.waitsFor .any ops i j || (match ops[j]? with | some oj => o.apart ops oj | none => true)
      else decide (n = ops.size) || (anc ops n (deps ops n)).contains i
    | none => true)

theorem FInv.next {ops : Array Oper} {W : World} {a0 : Act} {G : Nat → Value → World → Prop} {listed : Array Bool} {a : Act} {w : World} (hf : freeB ops a0.tmps.size = true) (stable : ∀ i v w w', G i v w → Below w.heap.size w w' → G i v w')
    (inv : FInv ops W a0 G listed a w) {i : Nat} {o : Oper} (ho : ops[i]? = some o) {v : Value} {w' : World} (hg : G i v w') (hb : Below w.heap.size w w') : FInv ops W a0 G (listed.setIfInBounds i true) (a.put o.dst v) w' := by
  have hlt : i < listed.size := by rw [inv.lsize]; exact (Array.getElem?_eq_some_iff.1 ho).1
  obtain ⟨hed, hds⟩ := freeB_spec hf i o ho
  have hput : ∀ t, (∀ d, o.dst = some d → d ≠ t) → (a.put o.dst v).tmps[t]? = a.tmps[t]? := by
    intro t ht
    cases hd : o.dst with
    | none => rfl
    | some d =>
      have hdl : d < a.tmps.size := by rw [inv.size]; exact (hds d hd).1
      rw [put_get a d t v hdl, if_neg (ht d hd)]
  refine ⟨inv.below.trans (hb.mono inv.below.size), ?_, ?_, by simp [inv.lsize], fun t ht => ?_, fun j oj hj hlj => ?_⟩
  · cases hd : o.dst <;> simp [Act.put, inv.defers]
  · cases hd : o.dst <;> simp [Act.put, inv.size]
  · rw [hput t (fun d hd => by
      intro e
      subst e
      exact ht i o ho (by simp [hlt]) hd)]
    refine inv.slot t fun k ok hk hlk => ht k ok hk ?_
    by_cases hik : i = k
    · subst hik; simp [hlt]
    · rw [getD_set_ne false hik]; exact hlk
  · by_cases hij : i = j
    · subst hij
      have : oj = o := Option.some.inj (hj.symm.trans ho)
      subst this
      refine ⟨v, fun d hd => ?_, hg⟩
      rw [hd, put_get a d d v (by rw [inv.size]; exact (hds d hd).1), if_pos rfl]
    · rw [getD_set_ne false hij] at hlj
      obtain ⟨u, hu, hgu⟩ := inv.done j oj hj hlj
      refine ⟨u, fun d hd => ?_, stable j u w w' hgu hb⟩
      rw [hput d (fun d' hd' e => by
        subst e
        exact hij ((hds d' hd').2 j oj hj hd))]
      exact hu d hd
theorem FInv.here {n : Nat} {ops : Array Oper} {W : World} {a0 : Act} {G : Nat → Value → World → Prop} {listed : Array Bool} {a : Act} {w : World} (inv : FInv ops W a0 G listed a w) (htl : ∀ t, n ≤ t → listed.getD t false = false) {i : Nat} {o : Oper} (hi : i ∈ Region.ready .any ops listed) (ho : ops[i]? = some o) : HereN n ops W a0 G o a w := by
  obtain ⟨h0, o', ho', hall⟩ := mem_ready.1 hi
  have : o' = o := Option.some.inj (ho'.symm.trans ho)
  subst this
  refine ⟨inv.below, fun t ht => inv.slot t fun k ok hk hlk => ht k ok (by
    apply Classical.byContradiction
    intro hge
    rw [htl k (by omega)] at hlk
    cases hlk) hk, fun j oj d hdep hj hd => ?_⟩
  obtain ⟨e, he, heb⟩ := Array.any_eq_true'.1 hdep
  simp only [Bool.and_eq_true, beq_iff_eq] at heb
  have hlj := hall e he heb.1
  rw [heb.2] at hlj
  obtain ⟨v, hv, hg⟩ := inv.done j oj hj hlj
  exact ⟨v, hv d hd, hg⟩

def left (listed : Array Bool) : Nat := (listed.toList.filter (!·)).length
theorem left_set {listed : Array Bool} {i : Nat} (hlt : i < listed.size) (hi : listed.getD i true = false) : left (listed.setIfInBounds i true) + 1 = left listed := by
  have h1 : (listed.setIfInBounds i true).toList = listed.toList.set i true := by simp
  unfold left
  rw [h1]
  have key : ∀ (l : List Bool) (i : Nat), l[i]? = some false → ((l.set i true).filter (!·)).length + 1 = (l.filter (!·)).length := by
    intro l
    induction l with
    | nil => intro i h; simp at h
    | cons b l ih2 =>
      intro i h
      cases i with
      | zero => simp at h; subst h; simp
      | succ i =>
        have := ih2 i (by simpa using h)
        cases b <;> simp at this ⊢ <;> omega
  exact key listed.toList i (by
    simp [hlt] at hi
    rw [Array.getElem?_toList, Array.getElem?_eq_getElem hlt, hi])
theorem waits_ready {ops : Array Oper} {listed : Array Bool} {j i : Nat} (hw : Region.waitsFor .any ops j i = true) (hj : j ∈ Region.ready .any ops listed) : listed.getD i false = true := by
  obtain ⟨oj, hoj, e, he, hb, hon⟩ := Region.waitsFor_spec hw
  obtain ⟨_, o', ho', hall⟩ := mem_ready.1 hj
  have : o' = oj := Option.some.inj (ho'.symm.trans hoj)
  subst this
  rw [← hon]; exact hall e he hb

theorem chain_any {P : Program} {ops : Array Oper} {Q : Exit → Act → World → Prop} {W : World} {a0 : Act} {acc : List R} {n : Nat} (hB : chB ops n a0.tmps.size = true) (hQ : ∀ c a w, ¬ Q (.panic c) a w)
    (hok : ∀ r ∈ acc, r.ok) (steps : ∀ i o, i < n → ops[i]? = some o → ∃ r, acc[i]? = some r ∧ (if pureOp o.op = true then StepP n P ops W a0 acc o r else StepM n P ops W a0 acc o r))
    (fin : ∀ a w, FInv ops W a0 (G acc) (headListed n (ops.size - n)) a w → wpList P ops Q (ops.toList.drop n) a w) :
    ∀ (fuel : Nat) (listed : Array Bool) (a : Act) (w : World), FInv ops W a0 (G acc) listed a w → (∀ t, n ≤ t → listed.getD t false = false) → left listed = fuel → Closed ops listed → wpAny P .any ops Q fuel listed a w := by
  simp only [chB, Bool.and_eq_true, decide_eq_true_eq] at hB
  obtain ⟨⟨⟨⟨⟨hf, hns⟩, hn⟩, hch⟩, hseq⟩, hpu⟩ := hB
  have stable : ∀ i v w w', G acc i v w → Below w.heap.size w w' → G acc i v w' := by
    intro i v w w' h hb
    unfold G at h ⊢
    cases hr : acc[i]? with
    | none => trivial
    | some r => rw [hr] at h; exact R.stable (hok r (List.mem_of_getElem? hr)) h hb
  have tail : ∀ (fuel : Nat) (listed : Array Bool) (a : Act) (w : World), FInv ops W a0 (G acc) listed a w → (∀ t, n ≤ t → listed.getD t false = false) → left listed = fuel → (∀ i, i < n → listed.getD i false = true) → wpAny P .any ops Q fuel listed a w := by
    intro fuel listed a w inv htl hfu hall
    have he : listed = headListed n (ops.size - n) := by
      apply Array.ext
      · simp [headListed, inv.lsize]; omega
      · intro i h1 h2
        by_cases hi : i < n
        · have := hall i hi
          simp [h1] at this
          simp only [headListed, this, List.getElem_toArray]
          rw [List.getElem_append_left (by simpa using hi)]; simp
        · have := htl i (by omega)
          simp [h1] at this
          simp only [headListed, this, List.getElem_toArray]
          rw [List.getElem_append_right (by simp; omega)]; simp
    subst he
    have hfu2 : fuel = (ops.toList.drop n).length := by
      rw [← hfu]
      simp [left, headListed, List.filter_append]
    rw [hfu2]
    exact wpAny_of_seq (ops.toList.drop n) n _ a w (fun j => by simp [List.getElem?_drop]) (by simpa using hseq) (fin a w inv)
  intro fuel
  induction fuel with
  | zero =>
    intro listed a w inv htl hfu _
    refine tail 0 listed a w inv htl hfu fun i hi => ?_
    cases hl : listed.getD i false with
    | true => rfl
    | false =>
      exfalso
      have hlt : i < listed.size := by rw [inv.lsize]; omega
      have hm : false ∈ listed.toList.filter (!·) := by
        rw [List.mem_filter]
        refine ⟨?_, rfl⟩
        simp [hlt] at hl
        rw [← hl]; simp
      have : (listed.toList.filter (!·)) = [] := List.eq_nil_of_length_eq_zero hfu
      rw [this] at hm
      cases hm
  | succ fuel ih =>
    intro listed a w inv htl hfu hcl
    by_cases hall : ∀ i, i < n → listed.getD i false = true
    · exact tail _ listed a w inv htl hfu hall
    · -- the first one that is not listed
      have hex : ∃ j, j < n ∧ listed.getD j false = false ∧ ∀ i, i < j → listed.getD i false = true := by
        have hex0 : ∃ j, j < n ∧ listed.getD j false = false := by
          apply Classical.byContradiction
          intro hno
          exact hall fun i hi => by
            cases hl : listed.getD i false with
            | true => rfl
            | false => exact absurd ⟨i, hi, hl⟩ hno
        obtain ⟨j, hj⟩ := hex0
        induction j using Nat.strongRecOn with
        | _ j ihj =>
          by_cases hlow : ∃ i, i < j ∧ listed.getD i false = false
          · obtain ⟨i, hij, hli⟩ := hlow
            exact ihj i hij ⟨by omega, hli⟩
          · refine ⟨j, hj.1, hj.2, fun i hi => ?_⟩
            cases hl : listed.getD i false with
            | true => rfl
            | false => exact absurd ⟨i, hi, hl⟩ hlow
      obtain ⟨j, hjn, hjl, hjlow⟩ := hex
      have hjs : j < ops.size := by omega
      have hjlt : j < listed.size := by rw [inv.lsize]; exact hjs
      have hjr : j ∈ Region.ready .any ops listed := by
        rw [mem_ready]
        refine ⟨getD_in hjlt hjl, ops[j], Array.getElem?_eq_getElem hjs, fun e he hb => ?_⟩
        exact hjlow _ ((freeB_spec hf j _ (Array.getElem?_eq_getElem hjs)).1 e he hb)
      have hpj := List.all_eq_true.1 hpu j (List.mem_range.2 hjn)
      rw [Array.getElem?_eq_getElem hjs] at hpj
      simp only at hpj
      obtain ⟨r, hr, hst⟩ := steps j ops[j] hjn (Array.getElem?_eq_getElem hjs)
      by_cases hp : pureOp ops[j].op = true
      · rw [if_pos hp] at hst hpj
        obtain ⟨v, hy, hv⟩ := hst a w (inv.here htl hjr (Array.getElem?_eq_getElem hjs))
        refine wpAny_first (oi := ops[j]) (v := v) (Array.getElem?_eq_getElem hjs) (Region.noSelect_spec hns) (fun c a w h => absurd h (hQ c _ w)) fuel listed a w ?_ hjr hy ?_
        · intro k ok hk hkj hun hno
          have hks : k < ops.size := (Array.getElem?_eq_some_iff.1 hk).1
          have h1 := List.all_eq_true.1 hpj k (List.mem_range.2 hks)
          simp only [Bool.or_eq_true, decide_eq_true_eq, hkj, false_or, hk] at h1
          rcases h1 with (h1 | h1) | h1
          · obtain ⟨o', ho', e, he, hb, hon⟩ := Region.waitsFor_spec h1
            have : o' = ok := Option.some.inj (ho'.symm.trans hk)
            subst this
            exact absurd hon (hno e he hb)
          · have := waits_ready h1 hjr
            rw [getD_both hun] at this
            cases this
          · exact h1
        · have hg : G acc j v w := by unfold G; rw [hr]; exact hv
          exact ih _ _ _ (inv.next hf stable (Array.getElem?_eq_getElem hjs) hg (Below.refl _ _)) (fun t ht => by rw [getD_set_ne false (by omega)]; exact htl t ht)
            (by have := left_set hjlt (getD_in hjlt hjl); omega) (hcl.next hjr)
      · rw [if_neg hp] at hpj
        refine ⟨fun h0 => (by rw [h0] at hjr; cases hjr), fun i hi => ?_⟩
        have his := (mem_ready.1 hi)
        obtain ⟨hi0, o, ho, hio⟩ := his
        have hilt : i < listed.size := by rw [inv.lsize]; exact (Array.getElem?_eq_some_iff.1 ho).1
        have hin : i < n := by
          apply Classical.byContradiction
          intro hge
          have hiops : i < ops.size := (Array.getElem?_eq_some_iff.1 ho).1
          by_cases hen : i = n
          · subst hen
            simp only [Bool.or_eq_true, decide_eq_true_eq] at hpj
            rcases hpj with h1 | h1
            · omega
            · have := anc_ready hcl h1 hi
              rw [hjl] at this
              cases this
          · have h1 := List.all_eq_true.1 hch i (List.mem_range.2 hiops)
            simp only [Bool.or_eq_true, decide_eq_true_eq] at h1
            rcases h1 with h1 | h1
            · omega
            · have := waits_ready h1 hi
              rw [htl (i - 1) (by omega)] at this
              cases this
        obtain ⟨r', hr', hst'⟩ := steps i o hin ho
        have hnext : ∀ v w', r'.holds v w' → Below w.heap.size w w' → wpAny P .any ops Q fuel (listed.setIfInBounds i true) (a.put o.dst v) w' := by
          intro v w' hv hb
          have hg : G acc i v w' := by unfold G; rw [hr']; exact hv
          exact ih _ _ _ (inv.next hf stable ho hg hb) (fun t ht => by rw [getD_set_ne false (by omega)]; exact htl t ht) (by have := left_set hilt hi0; omega) (hcl.next hi)
        by_cases hp' : pureOp o.op = true
        · rw [if_pos hp'] at hst'
          obtain ⟨v, hy, hv⟩ := hst' a w (inv.here htl hi ho)
          exact hy.wpOp ho (hnext v w hv (Below.refl _ _))
        · rw [if_neg hp'] at hst'
          have h1 := hst' Q a w (inv.here htl hi ho)
          unfold wpOp
          simp only [ho]
          by_cases hw : Region.wanted o (yielded ops a.tmps) = true
          · rw [if_pos hw] at h1
            rw [if_pos hw]
            refine .inl (Oper.wp_mono ?_ h1)
            rintro a' w' ⟨v, rfl, hg, hb⟩
            exact hnext v w' hg hb
          · rw [if_neg hw] at h1
            rw [if_neg hw]
            exact hnext undef w h1 (Below.refl _ _)

/-- the frame behind the head -/
def fill : List Oper → List R → (Nat → Value) → Nat → List Value → List Value
  | o :: ops, r :: acc, vs, k, l0 => match o.dst with
    | some d => (fill ops acc vs (k + 1) l0).set d (match r with | .pure v => v | .op _ => vs k)
    | none => fill ops acc vs (k + 1) l0
  | _, _, _, _, l0 => l0
/-- what is known behind the head -/
def Facts : List R → (Nat → Value) → Nat → World → Prop
  | [], _, _, _ => True
  | .pure _ :: acc, vs, k, w => Facts acc vs (k + 1) w
  | .op g :: acc, vs, k, w => g (vs k) w ∧ Facts acc vs (k + 1) w
theorem fill_setAll : ∀ (ops : List Oper) (acc : List R) (vs : Nat → Value) (k : Nat) (l0 : List Value), acc.length = ops.length → (∀ (j : Nat) (v : Value), acc[j]? = some (.pure v) → vs (k + j) = v) → fill ops acc vs k l0 = setAll ops k vs l0
  | [], [], _, _, _, _, _ => rfl
  | o :: ops, r :: acc, vs, k, l0, hl, h => by
    have ih := fill_setAll ops acc vs (k + 1) l0 (by simpa using hl) (fun j v hj => by
      have := h (j + 1) v (by simpa using hj)
      rwa [show k + 1 + j = k + (j + 1) by omega])
    unfold fill setAll
    rw [ih]
    cases o.dst with
    | none => rfl
    | some d =>
      cases r with
      | pure v =>
        have := h 0 v rfl
        simp only
        rw [← this]; rfl
      | op g => rfl
  | [], _ :: _, _, _, _, hl, _ => by simp at hl
  | _ :: _, [], _, _, _, hl, _ => by simp at hl
theorem facts_of : ∀ (acc : List R) (vs : Nat → Value) (k : Nat) (w : World), (∀ (j : Nat) (r : R), acc[j]? = some r → r.holds (vs (k + j)) w) → Facts acc vs k w
  | [], _, _, _, _ => trivial
  | .pure _ :: acc, vs, k, w, h => facts_of acc vs (k + 1) w fun j r hj => by
    have := h (j + 1) r (by simpa using hj)
    rwa [show k + 1 + j = k + (j + 1) by omega]
  | .op g :: acc, vs, k, w, h => ⟨h 0 _ rfl, facts_of acc vs (k + 1) w fun j r hj => by
    have := h (j + 1) r (by simpa using hj)
    rwa [show k + 1 + j = k + (j + 1) by omega]⟩

/-- no panic -/
def NoP (Q : Exit → Act → World → Prop) : Exit → Act → World → Prop
  | .normal, a, w => Q .normal a w
  | _, _, _ => False

theorem here_prefix {m : Nat} {ops : Array Oper} {W : World} {a0 : Act} {acc : List R} {n : Nat} {o : Oper} {i : Nat} {a : Act} {w : World} (hf : freeB ops n = true) (ho : ops[i]? = some o) (h : HereN m ops W a0 (G acc) o a w) : HereN m ops W a0 (G (acc.take i)) o a w := by
  refine ⟨h.below, h.slot, fun j oj d hdep hj hd => ?_⟩
  obtain ⟨v, hv, hg⟩ := h.dep j oj d hdep hj hd
  refine ⟨v, hv, ?_⟩
  obtain ⟨e, he, heb⟩ := Array.any_eq_true'.1 hdep
  simp only [Bool.and_eq_true, beq_iff_eq] at heb
  have hji : j < i := by
    have := (freeB_spec hf i o ho).1 e he heb.1
    omega
  unfold G at hg ⊢
  rw [List.getElem?_take_of_lt hji]
  exact hg

theorem chain_fin {P : Program} {Q : Exit → Act → World → Prop} {l : List Oper} {l0 : List Value} {ds : List Deferred} {w : World} {n : Nat} {acc : List R} (hfree : freeB l.toArray l0.length = true) (hnl : n ≤ l.length) (hal : acc.length = n)
    (hf : ∀ (vs : Nat → Value) (w' : World), Below w.heap.size w w' → Facts acc vs 0 w' → wpList P l.toArray Q (l.drop n) ⟨(fill (l.take n) acc vs 0 l0).toArray, ds⟩ w')
    {a : Act} {w' : World} (inv : FInv l.toArray w ⟨l0.toArray, ds⟩ (G acc) (headListed n (l.toArray.size - n)) a w') : wpList P l.toArray Q (l.drop n) a w' := by
  have htl : (l.take n).length = n := by rw [List.length_take]; omega
  have hdone : ∀ (j : Nat) (oj : Oper), (l.take n)[j]? = some oj → ∃ v, (∀ d, oj.dst = some d → a.tmps[d]? = some v) ∧ G acc j v w' := by
    intro j oj hj
    have hjn : j < n := by
      have := (List.getElem?_eq_some_iff.1 hj).1
      omega
    rw [List.getElem?_take_of_lt hjn] at hj
    have hjl : j < l.length := (List.getElem?_eq_some_iff.1 hj).1
    exact inv.done j oj (by simpa using hj) (headListed_get _ _ _ hjn)
  have hch : ∃ vs : Nat → Value, ∀ (j : Nat) (oj : Oper), (l.take n)[j]? = some oj → (∀ d, oj.dst = some d → a.tmps[d]? = some (vs j)) ∧ G acc j (vs j) w' := by
    have each : ∀ j : Nat, ∃ v : Value, ∀ oj : Oper, (l.take n)[j]? = some oj → (∀ d, oj.dst = some d → a.tmps[d]? = some v) ∧ G acc j v w' := by
      intro j
      cases hj : (l.take n)[j]? with
      | none => exact ⟨undef, fun oj h => by cases h⟩
      | some o =>
        obtain ⟨v, h1, h2⟩ := hdone j o hj
        exact ⟨v, fun oj h => by cases h; exact ⟨h1, h2⟩⟩
    exact ⟨fun j => Classical.choose (each j), fun j => Classical.choose_spec (each j)⟩
  obtain ⟨vs, hvs⟩ := hch
  have hG : ∀ (j : Nat) (r : R), acc[j]? = some r → r.holds (vs j) w' := by
    intro j r hr
    have hjn : j < (l.take n).length := by
      have := (List.getElem?_eq_some_iff.1 hr).1
      omega
    have := (hvs j _ (List.getElem?_eq_getElem hjn)).2
    unfold G at this
    rw [hr] at this
    exact this
  have ha : a = ⟨(fill (l.take n) acc vs 0 l0).toArray, ds⟩ := by
    rw [fill_setAll _ _ _ _ _ (by omega) (fun j v hj => by rw [Nat.zero_add]; exact hG j _ hj)]
    cases a with
    | mk tmps defers =>
      have hd := inv.defers
      simp only at hd
      subst hd
      congr 1
      apply Array.ext_getElem?
      intro t
      by_cases hex : ∃ (j : Nat) (oj : Oper), (l.take n)[j]? = some oj ∧ oj.dst = some t
      · obtain ⟨j, oj, hj, hdj⟩ := hex
        have hjn : j < n := by
          have := (List.getElem?_eq_some_iff.1 hj).1
          omega
        have hj' := hj
        rw [List.getElem?_take_of_lt hjn] at hj'
        have hsp := freeB_spec hfree j oj (by simpa using hj')
        obtain ⟨htl', huniq⟩ := hsp.2 t hdj
        have h1 := (hvs j oj hj).1 t hdj
        simp only at h1
        rw [h1]
        have := setAll_some (l.take n) 0 vs l0 t htl' j oj hj hdj (fun i oi hi hdi => by
          have hin : i < n := by
            have := (List.getElem?_eq_some_iff.1 hi).1
            omega
          rw [List.getElem?_take_of_lt hin] at hi
          exact (huniq i oi (by simpa using hi) hdi).symm)
        simp only [List.getElem?_toArray, this, Nat.zero_add]
      · have hno : ∀ (j : Nat) (o : Oper), (l.take n)[j]? = some o → o.dst ≠ some t := fun j o hj hd => hex ⟨j, o, hj, hd⟩
        have h1 := inv.slot t (fun i oi hi hli hdi => by
          have hin : i < n := by
            apply Classical.byContradiction
            intro hge
            simp [headListed] at hli
            rw [List.getElem?_append_right (by simp; omega)] at hli
            simp [List.getElem?_replicate] at hli
            split at hli <;> simp at hli
          have hi' : (l.take n)[i]? = some oi := by rw [List.getElem?_take_of_lt hin]; simpa using hi
          exact hno i oi hi' hdi)
        simp only at h1
        rw [h1]
        simp only [List.getElem?_toArray, setAll_none (l.take n) 0 vs l0 t hno]
  rw [ha]
  have := hf vs w' ⟨inv.below.os, inv.below.tape, inv.below.output, inv.below.size, inv.below.block⟩ (facts_of acc vs 0 w' (fun j r hr => by rw [Nat.zero_add]; exact hG j r hr))
  exact this
/-- a region that draws its order, in the order of the text -/
theorem chain {P : Program} {Q : Exit → Act → World → Prop} {id : Nat} {l : List Oper} {l0 : List Value} {ds : List Deferred} {w : World} (n : Nat) (hm : P.follows .mixedOrders = true) (hB : chB l.toArray n l0.length = true)
    (h : Chain n P l.toArray w ⟨l0.toArray, ds⟩ [] (l.take n) fun acc => ∀ (vs : Nat → Value) (w' : World), Below w.heap.size w w' → Facts acc vs 0 w' → wpList P l.toArray (NoP Q) (l.drop n) ⟨(fill (l.take n) acc vs 0 l0).toArray, ds⟩ w') :
    (Code.region id l.toArray true).wp P Q ⟨l0.toArray, ds⟩ w := by
  refine wp_mono (Q := NoP Q) ?_ (fun e a w q => by cases e <;> first | exact q | exact q.elim)
  refine wp_region_any hm ?_
  obtain ⟨acc, hl, hf, hs⟩ := Chain.all _ _ h
  simp only [List.nil_append] at hf hs
  have hB' : chB l.toArray n (Act.mk l0.toArray ds).tmps.size = true := by simpa using hB
  have hBs := hB
  simp only [chB, Bool.and_eq_true, decide_eq_true_eq] at hBs
  obtain ⟨⟨⟨⟨⟨hfree, _⟩, hn⟩, _⟩, _⟩, _⟩ := hBs
  have hnl : n ≤ l.length := by simpa using hn
  have htl : (l.take n).length = n := by rw [List.length_take]; omega
  have hal : acc.length = n := by rw [hl, htl]
  refine chain_any (W := w) (a0 := ⟨l0.toArray, ds⟩) (acc := acc) hB' (fun c a w h => h) ?_ ?_ ?_ _ _ _ _ ?_ ?_ ?_ ?_
  · intro r hr
    obtain ⟨j, hj, rfl⟩ := List.mem_iff_getElem.1 hr
    have hj2 : j < (l.take n).length := by omega
    obtain ⟨r, h1, h2, _⟩ := hs j _ (List.getElem?_eq_getElem hj2)
    rw [List.getElem?_eq_getElem hj] at h1
    rw [Option.some.inj h1]; exact h2
  · intro i o hi ho
    have ho' : (l.take n)[i]? = some o := by rw [List.getElem?_take_of_lt hi]; simpa using ho
    obtain ⟨r, h1, _, h3⟩ := hs i o ho'
    refine ⟨r, h1, ?_⟩
    split
    · rename_i hp
      rw [if_pos hp] at h3
      intro a w hh
      exact h3 a w (here_prefix (by simpa using hfree) ho hh)
    · rename_i hp
      rw [if_neg hp] at h3
      intro Q a w hh
      exact h3 Q a w (here_prefix (by simpa using hfree) ho hh)
  · intro a w' inv
    have := chain_fin (w := w) hfree hnl hal hf inv
    simpa using this
  · refine ⟨bel_drew (Below.refl _ _), rfl, rfl, by simp, fun t _ => rfl, fun j oj hj hl => ?_⟩
    exfalso
    rw [getD_replicate_false] at hl
    cases hl
  · intro t _; exact getD_replicate_false _ _
  · simp [left]
  · intro j oj hj hl
    rw [getD_replicate_false] at hl
    cases hl
theorem headListed_set (k m : Nat) : (headListed k (m + 1)).setIfInBounds k true = headListed (k + 1) m := by
  unfold headListed
  rw [List.setIfInBounds_toArray]
  congr 1
  rw [List.set_append_right _ _ (by simp), List.replicate_succ (n := m), List.replicate_succ' (n := k)]
  simp
theorem list_any {P : Program} {Q : Exit → Act → World → Prop} {l : List Oper} {W : World} {a0 : Act} {acc : List R} {n : Nat} (hf : freeB l.toArray a0.tmps.size = true) (hnl : n ≤ l.length)
    (hok : ∀ r ∈ acc, r.ok) (steps : ∀ i o, i < n → l[i]? = some o → ∃ r, acc[i]? = some r ∧ (if pureOp o.op = true then StepP n P l.toArray W a0 acc o r else StepM n P l.toArray W a0 acc o r))
    (fin : ∀ a w, FInv l.toArray W a0 (G acc) (headListed n (l.toArray.size - n)) a w → wpList P l.toArray Q (l.drop n) a w) :
    ∀ (m k : Nat) (a : Act) (w : World), k + m = n → FInv l.toArray W a0 (G acc) (headListed k (l.toArray.size - k)) a w → wpList P l.toArray Q (l.drop k) a w := by
  have stable : ∀ i v w w', G acc i v w → Below w.heap.size w w' → G acc i v w' := by
    intro i v w w' h hb
    unfold G at h ⊢
    cases hr : acc[i]? with
    | none => trivial
    | some r => rw [hr] at h; exact R.stable (hok r (List.mem_of_getElem? hr)) h hb
  intro m
  induction m with
  | zero =>
    intro k a w hk inv
    obtain rfl : k = n := by omega
    exact fin a w inv
  | succ m ih =>
    intro k a w hk inv
    have hkl : k < l.length := by omega
    have hko : l.toArray[k]? = some l[k] := by simp [hkl]
    have hrl : ∀ t, (headListed k (l.toArray.size - k)).getD t false = decide (t < k) := by
      intro t
      by_cases ht : t < k
      · rw [headListed_get _ _ _ ht]; simp [ht]
      · unfold headListed
        rw [Array.getD_eq_getD_getElem?, List.getElem?_toArray, List.getElem?_append_right (by simp; omega), List.getElem?_replicate]
        split <;> simp [ht]
    have hready : k ∈ Region.ready .any l.toArray (headListed k (l.toArray.size - k)) := by
      rw [mem_ready]
      refine ⟨getD_in (by simp [headListed]; omega) (by rw [hrl]; simp), l[k], hko, fun e he hb => ?_⟩
      rw [hrl]
      simpa using (freeB_spec hf k _ hko).1 e he hb
    have hset : (headListed k (l.toArray.size - k)).setIfInBounds k true = headListed (k + 1) (l.toArray.size - (k + 1)) := by
      have : l.toArray.size - k = (l.toArray.size - (k + 1)) + 1 := by simp; omega
      rw [this, headListed_set]
    have htl : ∀ t, n ≤ t → (headListed k (l.toArray.size - k)).getD t false = false := fun t ht => by rw [hrl]; simp; omega
    obtain ⟨r, hr, hst⟩ := steps k l[k] (by omega) (List.getElem?_eq_getElem hkl)
    have hnext : ∀ v w', r.holds v w' → Below w.heap.size w w' → wpList P l.toArray Q (l.drop (k + 1)) (a.put l[k].dst v) w' := by
      intro v w' hv hb
      have hg : G acc k v w' := by unfold G; rw [hr]; exact hv
      have := inv.next hf stable hko hg hb
      rw [hset] at this
      exact ih (k + 1) _ _ (by omega) this
    rw [List.drop_eq_getElem_cons hkl]
    unfold wpList
    by_cases hp : pureOp l[k].op = true
    · rw [if_pos hp] at hst
      obtain ⟨v, hy, hv⟩ := hst a w (inv.here htl hready hko)
      rcases hy with ⟨hw, hrun⟩ | ⟨hw, rfl⟩
      · rw [if_pos hw]
        refine .inl ?_
        unfold Oper.wp
        rw [hrun w]
        exact hnext v w hv (Below.refl _ _)
      · rw [if_neg (by rw [hw]; decide)]
        exact hnext undef w hv (Below.refl _ _)
    · rw [if_neg hp] at hst
      have h1 := hst Q a w (inv.here htl hready hko)
      by_cases hw : Region.wanted l[k] (yielded l.toArray a.tmps) = true
      · rw [if_pos hw] at h1 ⊢
        refine .inl (Oper.wp_mono ?_ h1)
        rintro a' w' ⟨v, rfl, hg, hb⟩
        exact hnext v w' hg hb
      · rw [if_neg hw] at h1 ⊢
        exact hnext undef w h1 (Below.refl _ _)
/-- a region that does not draw -/
theorem chainL {P : Program} {Q : Exit → Act → World → Prop} {id : Nat} {l : List Oper} {l0 : List Value} {ds : List Deferred} {w : World} (n : Nat) (hB : (freeB l.toArray l0.length && decide (n ≤ l.length)) = true)
    (h : Chain n P l.toArray w ⟨l0.toArray, ds⟩ [] (l.take n) fun acc => ∀ (vs : Nat → Value) (w' : World), Below w.heap.size w w' → Facts acc vs 0 w' → wpList P l.toArray Q (l.drop n) ⟨(fill (l.take n) acc vs 0 l0).toArray, ds⟩ w') :
    (Code.region id l.toArray false).wp P Q ⟨l0.toArray, ds⟩ w := by
  simp only [Bool.and_eq_true, decide_eq_true_eq] at hB
  obtain ⟨hfree, hnl⟩ := hB
  obtain ⟨acc, hl, hf, hs⟩ := Chain.all _ _ h
  simp only [List.nil_append] at hf hs
  have htl : (l.take n).length = n := by rw [List.length_take]; omega
  have hal : acc.length = n := by rw [hl, htl]
  refine wp_region_lit ?_
  have := list_any (P := P) (Q := Q) (l := l) (W := w) (a0 := ⟨l0.toArray, ds⟩) (acc := acc) (n := n) (by simpa using hfree) hnl ?_ ?_ (fun a w' inv => chain_fin (w := w) hfree hnl hal hf inv) n 0 ⟨l0.toArray, ds⟩ w (by omega) ?_
  · simpa using this
  · intro r hr
    obtain ⟨j, hj, rfl⟩ := List.mem_iff_getElem.1 hr
    have hj2 : j < (l.take n).length := by omega
    obtain ⟨r, h1, h2, _⟩ := hs j _ (List.getElem?_eq_getElem hj2)
    rw [List.getElem?_eq_getElem hj] at h1
    rw [Option.some.inj h1]; exact h2
  · intro i o hi ho
    have ho' : (l.take n)[i]? = some o := by rw [List.getElem?_take_of_lt hi]; exact ho
    have ho2 : l.toArray[i]? = some o := by simpa using ho
    obtain ⟨r, h1, _, h3⟩ := hs i o ho'
    refine ⟨r, h1, ?_⟩
    split
    · rename_i hp
      rw [if_pos hp] at h3
      intro a w hh
      exact h3 a w (here_prefix (by simpa using hfree) ho2 hh)
    · rename_i hp
      rw [if_neg hp] at h3
      intro Q a w hh
      exact h3 Q a w (here_prefix (by simpa using hfree) ho2 hh)
  · refine ⟨Below.refl _ _, rfl, rfl, by simp [headListed], fun t _ => rfl, fun j oj hj hl => ?_⟩
    exfalso
    unfold headListed at hl
    rw [Array.getD_eq_getD_getElem?, List.getElem?_toArray] at hl
    simp [List.getElem?_replicate] at hl
    split at hl <;> simp at hl
end Agg
