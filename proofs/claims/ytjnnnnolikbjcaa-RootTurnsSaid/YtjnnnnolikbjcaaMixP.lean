/-
  TWO VARIABLES THAT ARE MADE IN ONE REGION ARE NOT THE SAME: the engine of regions that draw their order, with that fact. Over any program.
-/
import Derived.Test.YtjnnnnolikbjcaaRow
import Derived.Test.YtjnnnnolikbjcaaApp
import Derived.Test.YtjnnnnolikbjcaaGood
section
namespace Agg
open Go Go.RowKit

/-- an operation that makes a variable, whatever comes -/
def isA (o : Oper) : Bool := (match o.op with | .alloc _ => true | _ => false) && o.guard.isNone
theorem isA_op {o : Oper} (h : isA o = true) : (∃ t, o.op = .alloc t) ∧ o.guard = none := by
  unfold isA at h
  simp only [Bool.and_eq_true, Option.isNone_iff_eq_none] at h
  refine ⟨?_, h.2⟩
  have h1 := h.1
  split at h1
  · rename_i t ht; exact ⟨t, ht⟩
  · cases h1
theorem alloc_run {P : Program} {o : Oper} {t : TypeId} (ho : o.op = .alloc t) (e : Operand → Value) (w w' : World) (r : Next) (h : (execOp e o).run P w = .ok r w') : r = .value (.pointer (some ⟨w.heap.size, 0, none⟩)) ∧ w'.heap.size = w.heap.size + 1 := by
  cases hq : P.info? t with
  | none => simp [execOp, ho, Instr.alloc, zeroValue, typeInfo, hq] at h
  | some i =>
    cases hi : i.zero with
    | none => simp [execOp, ho, Instr.alloc, zeroValue, typeInfo, hq, hi] at h
    | some z =>
      simp [execOp, ho, Instr.alloc, zeroValue, typeInfo, hq, hi, newVar, newRow] at h
      obtain ⟨h1, h2⟩ := h
      exact ⟨h1.symm, by rw [← h2]; simp⟩
theorem alloc_wp {P : Program} {o : Oper} {t : TypeId} (ho : o.op = .alloc t) {a : Act} {w : World} {K : Act → World → Prop} {Q : Exit → Act → World → Prop} (h : o.wp P a w K Q) :
    o.wp P a w (fun a' w' => K a' w' ∧ a' = a.put o.dst (.pointer (some ⟨w.heap.size, 0, none⟩)) ∧ w'.heap.size = w.heap.size + 1) Q := by
  unfold Oper.wp at h ⊢
  generalize hr : (execOp a.eval o).run P w = res at h ⊢
  cases res with
  | ok r w' =>
    obtain ⟨rfl, hsz⟩ := alloc_run ho _ _ _ _ hr
    exact ⟨h, rfl, hsz⟩
  | halt hh w' => cases hh <;> exact h
/-- those that are made lie apart -/
structure Apart (ops : Array Oper) (listed : Array Bool) (a : Act) (w : World) : Prop where
  born : ∀ (i : Nat) (oi : Oper) (d : Nat), ops[i]? = some oi → isA oi = true → listed.getD i false = true → oi.dst = some d → ∃ b, a.tmps[d]? = some (.pointer (some ⟨b, 0, none⟩)) ∧ b < w.heap.size
  apart : ∀ (i j : Nat) (oi oj : Oper) (di dj : Nat), i ≠ j → ops[i]? = some oi → ops[j]? = some oj → isA oi = true → isA oj = true → listed.getD i false = true → listed.getD j false = true → oi.dst = some di → oj.dst = some dj → a.tmps[di]? ≠ a.tmps[dj]?
theorem Apart.next {ops : Array Oper} {listed : Array Bool} {a : Act} {w : World} (hf : freeB ops a.tmps.size = true) (D : Apart ops listed a w) {i : Nat} {o : Oper} {v : Value} {w' : World} (ho : ops[i]? = some o) (hsz : w.heap.size ≤ w'.heap.size)
    (hA : isA o = true → ∀ d, o.dst = some d → v = .pointer (some ⟨w.heap.size, 0, none⟩) ∧ w.heap.size < w'.heap.size) : Apart ops (listed.setIfInBounds i true) (a.put o.dst v) w' := by
  have hds := (freeB_spec hf i o ho).2
  have same : ∀ (k : Nat) (ok : Oper) (d : Nat), ops[k]? = some ok → ok.dst = some d → i ≠ k → (a.put o.dst v).tmps[d]? = a.tmps[d]? := by
    intro k ok d hk hd hne
    cases hod : o.dst with
    | none => rfl
    | some d' =>
      rw [put_get a d' d v (hds d' hod).1, if_neg]
      intro e
      subst e
      exact hne ((hds d' hod).2 k ok hk hd)
  have here : isA o = true → ∀ d, o.dst = some d → (a.put o.dst v).tmps[d]? = some (.pointer (some ⟨w.heap.size, 0, none⟩)) := by
    intro h d hd
    rw [hd, put_get a d d v (hds d hd).1, if_pos rfl, (hA h d hd).1]
  have old : ∀ k, i ≠ k → (listed.setIfInBounds i true).getD k false = true → listed.getD k false = true := fun k hne h => by rwa [getD_set_ne false hne] at h
  refine ⟨fun k ok d hk hAk hlk hd => ?_, fun k l ok ol dk dl hkl hk hl hAk hAl hlk hll hdk hdl => ?_⟩
  · by_cases hik : i = k
    · subst hik
      obtain rfl : ok = o := Option.some.inj (hk.symm.trans ho)
      exact ⟨_, here hAk d hd, (hA hAk d hd).2⟩
    · obtain ⟨b, h1, h2⟩ := D.born k ok d hk hAk (old k hik hlk) hd
      exact ⟨b, by rw [same k ok d hk hd hik]; exact h1, by omega⟩
  · by_cases hik : i = k
    · subst hik
      obtain rfl : ok = o := Option.some.inj (hk.symm.trans ho)
      obtain ⟨b, h1, h2⟩ := D.born l ol dl hl hAl (old l hkl hll) hdl
      rw [here hAk dk hdk, same l ol dl hl hdl hkl, h1]
      intro e
      simp only [Option.some.injEq, Value.pointer.injEq, Addr.mk.injEq, and_true] at e
      omega
    · by_cases hil : i = l
      · subst hil
        obtain rfl : ol = o := Option.some.inj (hl.symm.trans ho)
        obtain ⟨b, h1, h2⟩ := D.born k ok dk hk hAk (old k hik hlk) hdk
        rw [here hAl dl hdl, same k ok dk hk hdk hik, h1]
        intro e
        simp only [Option.some.injEq, Value.pointer.injEq, Addr.mk.injEq, and_true] at e
        omega
      · rw [same k ok dk hk hdk hik, same l ol dl hl hdl hil]
        exact D.apart k l ok ol dk dl hkl hk hl hAk hAl (old k hik hlk) (old l hil hll) hdk hdl
theorem chain_anyD {P : Program} {ops : Array Oper} {Q : Exit → Act → World → Prop} {W : World} {a0 : Act} {acc : List R} {n : Nat} (hB : chB ops n a0.tmps.size = true) (hQ : ∀ c a w, ¬ Q (.panic c) a w)
    (hok : ∀ r ∈ acc, r.ok) (steps : ∀ i o, i < n → ops[i]? = some o → ∃ r, acc[i]? = some r ∧ (if pureOp o.op = true then StepP n P ops W a0 acc o r else StepM n P ops W a0 acc o r))
    (fin : ∀ a w, FInv ops W a0 (G acc) (headListed n (ops.size - n)) a w → Apart ops (headListed n (ops.size - n)) a w → wpList P ops Q (ops.toList.drop n) a w) :
    ∀ (fuel : Nat) (listed : Array Bool) (a : Act) (w : World), FInv ops W a0 (G acc) listed a w → Apart ops listed a w → (∀ t, n ≤ t → listed.getD t false = false) → left listed = fuel → Closed ops listed → wpAny P .any ops Q fuel listed a w := by
  simp only [chB, Bool.and_eq_true, decide_eq_true_eq] at hB
  obtain ⟨⟨⟨⟨⟨hf, hns⟩, hn⟩, hch⟩, hseq⟩, hpu⟩ := hB
  have stable : ∀ i v w w', G acc i v w → Below w.heap.size w w' → G acc i v w' := by
    intro i v w w' h hb
    unfold G at h ⊢
    cases hr : acc[i]? with
    | none => trivial
    | some r => rw [hr] at h; exact R.stable (hok r (List.mem_of_getElem? hr)) h hb
  have tail : ∀ (fuel : Nat) (listed : Array Bool) (a : Act) (w : World), FInv ops W a0 (G acc) listed a w → Apart ops listed a w → (∀ t, n ≤ t → listed.getD t false = false) → left listed = fuel → (∀ i, i < n → listed.getD i false = true) → wpAny P .any ops Q fuel listed a w := by
    intro fuel listed a w inv D htl hfu hall
    have he : listed = headListed n (ops.size - n) := by
      apply Array.ext
      · simp [headListed, inv.lsize]; omega
      · intro i h1 h2
        by_cases hi : i < n
        · have := hall i hi
          simp [h1] at this
          simp only [headListed, this, List.getElem_toArray]
          rw [List.getElem_append_left (by simpa using hi)]; simp
        · have := htl i (by omega)
          simp [h1] at this
          simp only [headListed, this, List.getElem_toArray]
          rw [List.getElem_append_right (by simp; omega)]; simp
    subst he
    have hfu2 : fuel = (ops.toList.drop n).length := by
      rw [← hfu]
      simp [left, headListed, List.filter_append]
    rw [hfu2]
    exact wpAny_of_seq (ops.toList.drop n) n _ a w (fun j => by simp [List.getElem?_drop]) (by simpa using hseq) (fin a w inv D)
  intro fuel
  induction fuel with
  | zero =>
    intro listed a w inv D htl hfu _
    refine tail 0 listed a w inv D htl hfu fun i hi => ?_
    cases hl : listed.getD i false with
    | true => rfl
    | false =>
      exfalso
      have hlt : i < listed.size := by rw [inv.lsize]; omega
      have hm : false ∈ listed.toList.filter (!·) := by
        rw [List.mem_filter]
        refine ⟨?_, rfl⟩
        simp [hlt] at hl
        rw [← hl]; simp
      have : (listed.toList.filter (!·)) = [] := List.eq_nil_of_length_eq_zero hfu
      rw [this] at hm
      cases hm
  | succ fuel ih =>
    intro listed a w inv D htl hfu hcl
    by_cases hall : ∀ i, i < n → listed.getD i false = true
    · exact tail _ listed a w inv D htl hfu hall
    · -- the first one that is not listed
      have hex : ∃ j, j < n ∧ listed.getD j false = false ∧ ∀ i, i < j → listed.getD i false = true := by
        have hex0 : ∃ j, j < n ∧ listed.getD j false = false := by
          apply Classical.byContradiction
          intro hno
          exact hall fun i hi => by
            cases hl : listed.getD i false with
            | true => rfl
            | false => exact absurd ⟨i, hi, hl⟩ hno
        obtain ⟨j, hj⟩ := hex0
        induction j using Nat.strongRecOn with
        | _ j ihj =>
          by_cases hlow : ∃ i, i < j ∧ listed.getD i false = false
          · obtain ⟨i, hij, hli⟩ := hlow
            exact ihj i hij ⟨by omega, hli⟩
          · refine ⟨j, hj.1, hj.2, fun i hi => ?_⟩
            cases hl : listed.getD i false with
            | true => rfl
            | false => exact absurd ⟨i, hi, hl⟩ hlow
      obtain ⟨j, hjn, hjl, hjlow⟩ := hex
      have hjs : j < ops.size := by omega
      have hjlt : j < listed.size := by rw [inv.lsize]; exact hjs
      have hjr : j ∈ Region.ready .any ops listed := by
        rw [mem_ready]
        refine ⟨getD_in hjlt hjl, ops[j], Array.getElem?_eq_getElem hjs, fun e he hb => ?_⟩
        exact hjlow _ ((freeB_spec hf j _ (Array.getElem?_eq_getElem hjs)).1 e he hb)
      have hpj := List.all_eq_true.1 hpu j (List.mem_range.2 hjn)
      rw [Array.getElem?_eq_getElem hjs] at hpj
      simp only at hpj
      obtain ⟨r, hr, hst⟩ := steps j ops[j] hjn (Array.getElem?_eq_getElem hjs)
      by_cases hp : pureOp ops[j].op = true
      · rw [if_pos hp] at hst hpj
        obtain ⟨v, hy, hv⟩ := hst a w (inv.here htl hjr (Array.getElem?_eq_getElem hjs))
        refine wpAny_first (oi := ops[j]) (v := v) (Array.getElem?_eq_getElem hjs) (Region.noSelect_spec hns) (fun c a w h => absurd h (hQ c _ w)) fuel listed a w ?_ hjr hy ?_
        · intro k ok hk hkj hun hno
          have hks : k < ops.size := (Array.getElem?_eq_some_iff.1 hk).1
          have h1 := List.all_eq_true.1 hpj k (List.mem_range.2 hks)
          simp only [Bool.or_eq_true, decide_eq_true_eq, hkj, false_or, hk] at h1
          rcases h1 with (h1 | h1) | h1
          · obtain ⟨o', ho', e, he, hb, hon⟩ := Region.waitsFor_spec h1
            have : o' = ok := Option.some.inj (ho'.symm.trans hk)
            subst this
            exact absurd hon (hno e he hb)
          · have := waits_ready h1 hjr
            rw [getD_both hun] at this
            cases this
          · exact h1
        · have hg : G acc j v w := by unfold G; rw [hr]; exact hv
          exact ih _ _ _ (inv.next hf stable (Array.getElem?_eq_getElem hjs) hg (Below.refl _ _)) (D.next (by rw [inv.size]; exact hf) (Array.getElem?_eq_getElem hjs) (Nat.le_refl _) (fun h => by obtain ⟨⟨t, ht⟩, _⟩ := isA_op h; rw [ht] at hp; cases hp)) (fun t ht => by rw [getD_set_ne false (by omega)]; exact htl t ht)
            (by have := left_set hjlt (getD_in hjlt hjl); omega) (hcl.next hjr)
      · rw [if_neg hp] at hpj
        refine ⟨fun h0 => (by rw [h0] at hjr; cases hjr), fun i hi => ?_⟩
        have his := (mem_ready.1 hi)
        obtain ⟨hi0, o, ho, hio⟩ := his
        have hilt : i < listed.size := by rw [inv.lsize]; exact (Array.getElem?_eq_some_iff.1 ho).1
        have hin : i < n := by
          apply Classical.byContradiction
          intro hge
          have hiops : i < ops.size := (Array.getElem?_eq_some_iff.1 ho).1
          by_cases hen : i = n
          · subst hen
            simp only [Bool.or_eq_true, decide_eq_true_eq] at hpj
            rcases hpj with h1 | h1
            · omega
            · have := anc_ready hcl h1 hi
              rw [hjl] at this
              cases this
          · have h1 := List.all_eq_true.1 hch i (List.mem_range.2 hiops)
            simp only [Bool.or_eq_true, decide_eq_true_eq] at h1
            rcases h1 with h1 | h1
            · omega
            · have := waits_ready h1 hi
              rw [htl (i - 1) (by omega)] at this
              cases this
        obtain ⟨r', hr', hst'⟩ := steps i o hin ho
        have hnext : ∀ v w', r'.holds v w' → Below w.heap.size w w' → (isA o = true → ∀ d, o.dst = some d → v = .pointer (some ⟨w.heap.size, 0, none⟩) ∧ w.heap.size < w'.heap.size) → wpAny P .any ops Q fuel (listed.setIfInBounds i true) (a.put o.dst v) w' := by
          intro v w' hv hb hA
          have hg : G acc i v w' := by unfold G; rw [hr']; exact hv
          exact ih _ _ _ (inv.next hf stable ho hg hb) (D.next (by rw [inv.size]; exact hf) ho hb.size hA) (fun t ht => by rw [getD_set_ne false (by omega)]; exact htl t ht) (by have := left_set hilt hi0; omega) (hcl.next hi)
        by_cases hp' : pureOp o.op = true
        · rw [if_pos hp'] at hst'
          obtain ⟨v, hy, hv⟩ := hst' a w (inv.here htl hi ho)
          exact hy.wpOp ho (hnext v w hv (Below.refl _ _) (fun h => by obtain ⟨⟨t, ht⟩, _⟩ := isA_op h; rw [ht] at hp'; cases hp'))
        · rw [if_neg hp'] at hst'
          have h1 := hst' Q a w (inv.here htl hi ho)
          unfold wpOp
          simp only [ho]
          by_cases hw : Region.wanted o (yielded ops a.tmps) = true
          · rw [if_pos hw] at h1
            rw [if_pos hw]
            by_cases hA : isA o = true
            · obtain ⟨⟨t, hop⟩, _⟩ := isA_op hA
              refine .inl (Oper.wp_mono ?_ (alloc_wp hop h1))
              rintro a' w' ⟨⟨v, rfl, hg, hb⟩, he, hsz⟩
              refine hnext v w' hg hb (fun _ d hd => ⟨?_, by omega⟩)
              have hdl := ((freeB_spec hf i o ho).2 d hd).1
              have := congrArg (fun x : Act => x.tmps[d]?) he
              rw [hd, put_get a d d v (by rw [inv.size]; exact hdl), if_pos rfl, put_get a d d _ (by rw [inv.size]; exact hdl), if_pos rfl] at this
              exact Option.some.inj this
            · refine .inl (Oper.wp_mono ?_ h1)
              rintro a' w' ⟨v, rfl, hg, hb⟩
              exact hnext v w' hg hb (fun h => absurd h hA)
          · rw [if_neg hw] at h1
            rw [if_neg hw]
            exact hnext undef w h1 (Below.refl _ _) (fun h => absurd (wn (isA_op h).2) hw)


/-- .. the variables that are made -/
def ApartV (l : List Oper) (vs : Nat → Value) : Prop := ∀ (i j : Nat) (oi oj : Oper), i ≠ j → l[i]? = some oi → l[j]? = some oj → isA oi = true → isA oj = true → oi.dst.isSome = true → oj.dst.isSome = true → vs i ≠ vs j
theorem chain_finD {P : Program} {Q : Exit → Act → World → Prop} {l : List Oper} {l0 : List Value} {ds : List Deferred} {w : World} {n : Nat} {acc : List R} (hfree : freeB l.toArray l0.length = true) (hnl : n ≤ l.length) (hal : acc.length = n)
    (hf : ∀ (vs : Nat → Value) (w' : World), Below w.heap.size w w' → Facts acc vs 0 w' → ApartV (l.take n) vs → wpList P l.toArray Q (l.drop n) ⟨(fill (l.take n) acc vs 0 l0).toArray, ds⟩ w')
    {a : Act} {w' : World} (inv : FInv l.toArray w ⟨l0.toArray, ds⟩ (G acc) (headListed n (l.toArray.size - n)) a w') (D : Apart l.toArray (headListed n (l.toArray.size - n)) a w') : wpList P l.toArray Q (l.drop n) a w' := by
  have htl : (l.take n).length = n := by rw [List.length_take]; omega
  have hdone : ∀ (j : Nat) (oj : Oper), (l.take n)[j]? = some oj → ∃ v, (∀ d, oj.dst = some d → a.tmps[d]? = some v) ∧ G acc j v w' := by
    intro j oj hj
    have hjn : j < n := by
      have := (List.getElem?_eq_some_iff.1 hj).1
      omega
    rw [List.getElem?_take_of_lt hjn] at hj
    have hjl : j < l.length := (List.getElem?_eq_some_iff.1 hj).1
    exact inv.done j oj (by simpa using hj) (headListed_get _ _ _ hjn)
  have hch : ∃ vs : Nat → Value, ∀ (j : Nat) (oj : Oper), (l.take n)[j]? = some oj → (∀ d, oj.dst = some d → a.tmps[d]? = some (vs j)) ∧ G acc j (vs j) w' := by
    have each : ∀ j : Nat, ∃ v : Value, ∀ oj : Oper, (l.take n)[j]? = some oj → (∀ d, oj.dst = some d → a.tmps[d]? = some v) ∧ G acc j v w' := by
      intro j
      cases hj : (l.take n)[j]? with
      | none => exact ⟨undef, fun oj h => by cases h⟩
      | some o =>
        obtain ⟨v, h1, h2⟩ := hdone j o hj
        exact ⟨v, fun oj h => by cases h; exact ⟨h1, h2⟩⟩
    exact ⟨fun j => Classical.choose (each j), fun j => Classical.choose_spec (each j)⟩
  obtain ⟨vs, hvs⟩ := hch
  have hG : ∀ (j : Nat) (r : R), acc[j]? = some r → r.holds (vs j) w' := by
    intro j r hr
    have hjn : j < (l.take n).length := by
      have := (List.getElem?_eq_some_iff.1 hr).1
      omega
    have := (hvs j _ (List.getElem?_eq_getElem hjn)).2
    unfold G at this
    rw [hr] at this
    exact this
  have ha : a = ⟨(fill (l.take n) acc vs 0 l0).toArray, ds⟩ := by
    rw [fill_setAll _ _ _ _ _ (by omega) (fun j v hj => by rw [Nat.zero_add]; exact hG j _ hj)]
    cases a with
    | mk tmps defers =>
      have hd := inv.defers
      simp only at hd
      subst hd
      congr 1
      apply Array.ext_getElem?
      intro t
      by_cases hex : ∃ (j : Nat) (oj : Oper), (l.take n)[j]? = some oj ∧ oj.dst = some t
      · obtain ⟨j, oj, hj, hdj⟩ := hex
        have hjn : j < n := by
          have := (List.getElem?_eq_some_iff.1 hj).1
          omega
        have hj' := hj
        rw [List.getElem?_take_of_lt hjn] at hj'
        have hsp := freeB_spec hfree j oj (by simpa using hj')
        obtain ⟨htl', huniq⟩ := hsp.2 t hdj
        have h1 := (hvs j oj hj).1 t hdj
        simp only at h1
        rw [h1]
        have := setAll_some (l.take n) 0 vs l0 t htl' j oj hj hdj (fun i oi hi hdi => by
          have hin : i < n := by
            have := (List.getElem?_eq_some_iff.1 hi).1
            omega
          rw [List.getElem?_take_of_lt hin] at hi
          exact (huniq i oi (by simpa using hi) hdi).symm)
        simp only [List.getElem?_toArray, this, Nat.zero_add]
      · have hno : ∀ (j : Nat) (o : Oper), (l.take n)[j]? = some o → o.dst ≠ some t := fun j o hj hd => hex ⟨j, o, hj, hd⟩
        have h1 := inv.slot t (fun i oi hi hli hdi => by
          have hin : i < n := by
            apply Classical.byContradiction
            intro hge
            simp [headListed] at hli
            rw [List.getElem?_append_right (by simp; omega)] at hli
            simp [List.getElem?_replicate] at hli
            split at hli <;> simp at hli
          have hi' : (l.take n)[i]? = some oi := by rw [List.getElem?_take_of_lt hin]; simpa using hi
          exact hno i oi hi' hdi)
        simp only at h1
        rw [h1]
        simp only [List.getElem?_toArray, setAll_none (l.take n) 0 vs l0 t hno]
  have hap : ApartV (l.take n) vs := by
    intro i j oi oj hne hi hj hA hB hdi hdj e
    obtain ⟨di, hdi⟩ := Option.isSome_iff_exists.1 hdi
    obtain ⟨dj, hdj⟩ := Option.isSome_iff_exists.1 hdj
    have hin : i < n := by have := (List.getElem?_eq_some_iff.1 hi).1; omega
    have hjn : j < n := by have := (List.getElem?_eq_some_iff.1 hj).1; omega
    have hi' := hi
    have hj' := hj
    rw [List.getElem?_take_of_lt hin] at hi'
    rw [List.getElem?_take_of_lt hjn] at hj'
    refine D.apart i j oi oj di dj hne (by simpa using hi') (by simpa using hj') hA hB (headListed_get _ _ _ hin) (headListed_get _ _ _ hjn) hdi hdj ?_
    rw [(hvs i oi hi).1 di hdi, (hvs j oj hj).1 dj hdj, e]
  rw [ha]
  have := hf vs w' ⟨inv.below.os, inv.below.tape, inv.below.output, inv.below.size, inv.below.block⟩ (facts_of acc vs 0 w' (fun j r hr => by rw [Nat.zero_add]; exact hG j r hr)) hap
  exact this
/-- a region that draws its order, in the order of the text -/
theorem chainD {P : Program} {Q : Exit → Act → World → Prop} {id : Nat} {l : List Oper} {l0 : List Value} {ds : List Deferred} {w : World} (n : Nat) (hm : P.follows .mixedOrders = true) (hB : chB l.toArray n l0.length = true)
    (h : Chain n P l.toArray w ⟨l0.toArray, ds⟩ [] (l.take n) fun acc => ∀ (vs : Nat → Value) (w' : World), Below w.heap.size w w' → Facts acc vs 0 w' → ApartV (l.take n) vs → wpList P l.toArray (NoP Q) (l.drop n) ⟨(fill (l.take n) acc vs 0 l0).toArray, ds⟩ w') :
    (Code.region id l.toArray true).wp P Q ⟨l0.toArray, ds⟩ w := by
  refine wp_mono (Q := NoP Q) ?_ (fun e a w q => by cases e <;> first | exact q | exact q.elim)
  refine wp_region_any hm ?_
  obtain ⟨acc, hl, hf, hs⟩ := Chain.all _ _ h
  simp only [List.nil_append] at hf hs
  have hB' : chB l.toArray n (Act.mk l0.toArray ds).tmps.size = true := by simpa using hB
  have hBs := hB
  simp only [chB, Bool.and_eq_true, decide_eq_true_eq] at hBs
  obtain ⟨⟨⟨⟨⟨hfree, _⟩, hn⟩, _⟩, _⟩, _⟩ := hBs
  have hnl : n ≤ l.length := by simpa using hn
  have htl : (l.take n).length = n := by rw [List.length_take]; omega
  have hal : acc.length = n := by rw [hl, htl]
  refine chain_anyD (W := w) (a0 := ⟨l0.toArray, ds⟩) (acc := acc) hB' (fun c a w h => h) ?_ ?_ ?_ _ _ _ _ ?_ ?_ ?_ ?_ ?_
  · intro r hr
    obtain ⟨j, hj, rfl⟩ := List.mem_iff_getElem.1 hr
    have hj2 : j < (l.take n).length := by omega
    obtain ⟨r, h1, h2, _⟩ := hs j _ (List.getElem?_eq_getElem hj2)
    rw [List.getElem?_eq_getElem hj] at h1
    rw [Option.some.inj h1]; exact h2
  · intro i o hi ho
    have ho' : (l.take n)[i]? = some o := by rw [List.getElem?_take_of_lt hi]; simpa using ho
    obtain ⟨r, h1, _, h3⟩ := hs i o ho'
    refine ⟨r, h1, ?_⟩
    split
    · rename_i hp
      rw [if_pos hp] at h3
      intro a w hh
      exact h3 a w (here_prefix (by simpa using hfree) ho hh)
    · rename_i hp
      rw [if_neg hp] at h3
      intro Q a w hh
      exact h3 Q a w (here_prefix (by simpa using hfree) ho hh)
  · intro a w' inv D
    have := chain_finD (w := w) hfree hnl hal hf inv D
    simpa using this
  · refine ⟨bel_drew (Below.refl _ _), rfl, rfl, by simp, fun t _ => rfl, fun j oj hj hl => ?_⟩
    exfalso
    rw [getD_replicate_false] at hl
    cases hl
  · refine ⟨fun i oi d _ _ hl => ?_, fun i j oi oj di dj _ _ _ _ _ hl => ?_⟩ <;> (rw [getD_replicate_false] at hl; cases hl)
  · intro t _; exact getD_replicate_false _ _
  · simp [left]
  · intro j oj hj hl
    rw [getD_replicate_false] at hl
    cases hl
/-- .. the same, with what was made so far at hand -/
theorem chainRD {P : Program} {Q : Exit → Act → World → Prop} {id : Nat} {l : List Oper} {l0 : List Value} {ds : List Deferred} {w : World} (n : Nat) (hm : P.follows .mixedOrders = true) (hB : chB l.toArray n l0.length = true)
    (h : ChainR n P l.toArray w ⟨l0.toArray, ds⟩ 0 [] (l.take n) fun acc => ∀ (vs : Nat → Value) (w' : World), Below w.heap.size w w' → Facts acc vs 0 w' → ApartV (l.take n) vs → wpList P l.toArray (NoP Q) (l.drop n) ⟨(fill (l.take n) acc vs 0 l0).toArray, ds⟩ w') :
    (Code.region id l.toArray true).wp P Q ⟨l0.toArray, ds⟩ w := chainD n hm hB (h rfl)
section
variable {n kk : Nat} {P : Program} {l rest : List Oper} {W : World} {l0 : List Value} {ds : List Deferred} {acc : List R} {o : Oper} {fin : List R → Prop}
/-- a call whose second argument is something of which something is known -/
theorem chCall2 {f : FuncId} {fn : Func} (hf : P.funcs[f]? = some fn) (hbody : fn.body.isNone = false) (hname : (fn.name == "runtime.NumGoroutine") = false) {x : Operand} {vx : Value} {t : Nat} {ts : Array TypeId} (v : Value) (j : Nat) {g : Value → World → Prop}
    (ho : o.op = .call { callee := .value (.func f), args := #[x, .tmp t], argTypes := ts }) (hx : rd (l.take n) l0 kk acc o x = some vx) (hd : depL o j = true) (hj : look kk acc j = some (.op g)) (ht : (l[j]?).map (·.dst) = some (some t)) (hw : wants kk acc o = some true) (hk : gOk l o = true)
    (hc : ∀ u w, Below W.heap.size W w → g u w → Calls P f #[vx, u] w fun e w' => e = .returned v ∧ Below w.heap.size w w')
    (h : ChainR n P l.toArray W ⟨l0.toArray, ds⟩ (kk + 1) ((.pure v) :: acc) rest fin) : ChainR n P l.toArray W ⟨l0.toArray, ds⟩ kk acc (o :: rest) fin :=
  chCallA (r := .pure v) (by rw [ho]; rfl) hw hk trivial hf hbody hname ho (fun a w hh => by
    obtain ⟨u, hu, hg⟩ := hh.op j t hd hj ht
    have e : (#[x, Operand.tmp t].map a.eval) = #[vx, u] := by simp [hu, hh.rd hx]
    rw [e]
    refine (hc u w hh.below hg).mono ?_
    rintro e w' ⟨rfl, hb⟩
    exact ⟨v, rfl, rfl, hb⟩) h
end
/-- bytes do not lie where no bytes lie -/
theorem Bytes.far {w w' : World} {v : Value} {l : List UInt8} {g : Nat} {T : TypeId} {cs : List Value} (h : Bytes w v l) (H : Blk w g T cs) (hc : ∀ (i : Nat) (z : Int), cs[i]? ≠ some (.int .u8 z)) (hg : w.grownBy w' (some g)) : Bytes w' v l := by
  by_cases h0 : l.length = 0
  · refine ⟨h.1, ?_⟩
    rcases h.2 with h2 | ⟨x, cap, rfl, h3, h4, _⟩
    · exact .inl h2
    · refine .inr ⟨x, cap, rfl, h3, h4, fun i u hu => ?_⟩
      rw [List.eq_nil_of_length_eq_zero h0] at hu
      simp [bv] at hu
  · refine Bytes.grown h hg fun k hk e => ?_
    cases hk
    obtain ⟨b, o, cap, rfl, _, _, hcs, _⟩ := SlR.pos h (by decide) (by omega)
    simp only [Value.ownBlock, Option.some.injEq] at e
    subst e
    have h1 := hcs 0 _ (bv_get l 0 (by omega))
    rw [H.cell] at h1
    exact hc _ _ h1
end Agg
end
section
/-
  DEVICES: the document's Copy.
-/
namespace Go.Proofs.Ytjnnnnolikbjcaa
open Go.ChangeShapes Go.WideShapes Go.ChangeAt Go.RowKit Agg Pg Dv

theorem bWne : 38 ≠ 88 := by decide
end Go.Proofs.Ytjnnnnolikbjcaa
end
section
/-
  DEVICES: the document's Same.
-/
namespace Go.Proofs.Ytjnnnnolikbjcaa
open Go.ChangeShapes Go.WideShapes Go.ChangeAt Go.RowKit Agg Pg Dv

end Go.Proofs.Ytjnnnnolikbjcaa
end
section
/-
  MIXTURES of two blocks, in plain Lean (a part of XPg6 and XPg7, for other seats).
-/
namespace Pg
open Go Go.RowKit Agg
/-- Mix: the sectors of a mask are the new one's -/
def mixB (old new : List Sec) (mask : Int) : List Sec := (List.range 4).map fun i => if (mask / 2 ^ i) % 2 = 1 then new.getD i (0, []) else old.getD i (0, [])
/-- .. as far as round k -/
def mixTo (old new : List Sec) (mask : Int) (k : Nat) : List Sec := (List.range 4).map fun i => if i < k ∧ (mask / 2 ^ i) % 2 = 1 then new.getD i (0, []) else old.getD i (0, [])
theorem mixTo_zero (old new : List Sec) (h : old.length = 4) (mask : Int) : mixTo old new mask 0 = old := by
  match old, h with
  | [a, b, c, d], _ => simp [mixTo, List.range, List.range.loop]
theorem mixTo_all (old new : List Sec) (mask : Int) : mixTo old new mask 4 = mixB old new mask := by
  unfold mixTo mixB
  apply List.map_congr_left
  intro i hi
  have : i < 4 := List.mem_range.1 hi
  simp [this]
theorem mixTo_length (old new : List Sec) (mask : Int) (k : Nat) : (mixTo old new mask k).length = 4 := by simp [mixTo]
theorem getD_mem {b : List Sec} (i : Nat) (h : i < b.length) : b.getD i (0, []) = b[i] := by rw [List.getD_eq_getElem?_getD, List.getElem?_eq_getElem h]; rfl
theorem mixTo_mem (old new : List Sec) (h1 : old.length = 4) (h2 : new.length = 4) (mask : Int) (k : Nat) : ∀ s ∈ mixTo old new mask k, s ∈ old ∨ s ∈ new := by
  intro s hs
  obtain ⟨i, hi, rfl⟩ := List.mem_map.1 hs
  have : i < 4 := List.mem_range.1 hi
  split
  · rw [getD_mem i (by omega)]; exact .inr (List.getElem_mem _)
  · rw [getD_mem i (by omega)]; exact .inl (List.getElem_mem _)
theorem mixTo_yes (old new : List Sec) (h2 : new.length = 4) (mask : Int) (k : Nat) (hk : k < 4) (h : (mask / 2 ^ k) % 2 = 1) : (mixTo old new mask k).set k (new[k]'(by omega)) = mixTo old new mask (k + 1) := by
  apply List.ext_getElem?
  intro i
  rw [List.getElem?_set]
  by_cases hi : k = i
  · subst hi
    simp only [mixTo, List.length_map, List.length_range, hk, if_true, List.getElem?_map, List.getElem?_range hk, Option.map_some, h]
    rw [if_pos ⟨by omega, trivial⟩, getD_mem k (by omega)]
  · rw [if_neg hi]
    simp only [mixTo, List.getElem?_map]
    by_cases h4 : i < 4
    · simp only [List.getElem?_range h4, Option.map_some]
      congr 1
      by_cases hlt : i < k
      · simp [hlt, Nat.lt_succ_of_lt hlt]
      · simp [hlt, show ¬ i < k + 1 by omega]
    · rw [List.getElem?_eq_none (by simpa using h4)]; rfl
theorem mixTo_no (old new : List Sec) (mask : Int) (k : Nat) (h : ¬ (mask / 2 ^ k) % 2 = 1) : mixTo old new mask k = mixTo old new mask (k + 1) := by
  unfold mixTo
  apply List.map_congr_left
  intro i _
  by_cases hi : i = k
  · subst hi; simp [h]
  · by_cases hlt : i < k
    · simp [hlt, Nat.lt_succ_of_lt hlt]
    · simp [hlt, show ¬ i < k + 1 by omega]
end Pg
namespace Agg
open Go Go.RowKit
theorem low_int (m : Int) : bits .and .i64 m 1 = m % 2 := by
  show IntKind.i64.wrap ((BitVec.ofInt 64 m &&& BitVec.ofInt 64 1).toNat : Int) = _
  have h1 : (BitVec.ofInt 64 1).toNat = 2 ^ 1 - 1 := by decide
  rw [BitVec.toNat_and, BitVec.toNat_ofInt, h1, Nat.and_two_pow_sub_one_eq_mod, IntKind.wrap_i64]
  omega
theorem run_shr_i64 {P : Program} (t : TypeId) (m : Int) (n : Nat) (hn : n < 64) (w : World) : (binOp .shr t (.int .i64 m) (.int .i64 (n : Int))).run P w = .ok (.int .i64 (m / 2 ^ n)) w := by
  have h0 : ¬ (n : Int) < 0 := by omega
  have e : Int.fdiv m (2 ^ n) = m / 2 ^ n := by
    have h2 : (0 : Int) ≤ 2 ^ n := Int.pow_nonneg (by decide)
    rw [Int.fdiv_eq_ediv_of_nonneg _ h2]
  have hb : min (n : Int).toNat IntKind.i64.bits = n := by simp [IntKind.bits]; omega
  simp only [binOp, Op.shift, h0, if_false, hb, Sem.run_pure, e]
end Agg
end
