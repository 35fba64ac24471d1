/-
  REGIONS THAT DRAW THEIR ORDER, in a round of a range over a function; two operations of which either may come first. Over any program.
-/
import Derived.OrdersIn
import Derived.Test.YtjnnnnolikbjcaaRtC
import Derived.Test.YtjnnnnolikbjcaaRFdDvI
namespace Agg
open Go Go.RowKit
theorem chainAny {P : Program} {Q : Exit → Act → World → Prop} {l : List Oper} {l0 : List Value} {ds : List Deferred} {w : World} (n : Nat) (hB : chB l.toArray n l0.length = true)
    (h : Chain n P l.toArray w ⟨l0.toArray, ds⟩ [] (l.take n) fun acc => ∀ (vs : Nat → Value) (w' : World), Below w.heap.size w w' → Facts acc vs 0 w' → wpList P l.toArray (NoP Q) (l.drop n) ⟨(fill (l.take n) acc vs 0 l0).toArray, ds⟩ w') :
    wpAny P .any l.toArray (NoP Q) l.toArray.size (Array.replicate l.toArray.size false) ⟨l0.toArray, ds⟩ { w with drawn := w.drawn + 1 } := by
  obtain ⟨acc, hl, hf, hs⟩ := Chain.all _ _ h
  simp only [List.nil_append] at hf hs
  have hB' : chB l.toArray n (Act.mk l0.toArray ds).tmps.size = true := by simpa using hB
  have hBs := hB
  simp only [chB, Bool.and_eq_true, decide_eq_true_eq] at hBs
  obtain ⟨⟨⟨⟨⟨hfree, _⟩, hn⟩, _⟩, _⟩, _⟩ := hBs
  have hnl : n ≤ l.length := by simpa using hn
  have htl : (l.take n).length = n := by rw [List.length_take]; omega
  have hal : acc.length = n := by rw [hl, htl]
  refine chain_any (W := w) (a0 := ⟨l0.toArray, ds⟩) (acc := acc) hB' (fun c a w h => h) ?_ ?_ ?_ _ _ _ _ ?_ ?_ ?_ ?_
  · intro r hr
    obtain ⟨j, hj, rfl⟩ := List.mem_iff_getElem.1 hr
    have hj2 : j < (l.take n).length := by omega
    obtain ⟨r, h1, h2, _⟩ := hs j _ (List.getElem?_eq_getElem hj2)
    rw [List.getElem?_eq_getElem hj] at h1
    rw [Option.some.inj h1]; exact h2
  · intro i o hi ho
    have ho' : (l.take n)[i]? = some o := by rw [List.getElem?_take_of_lt hi]; simpa using ho
    obtain ⟨r, h1, _, h3⟩ := hs i o ho'
    refine ⟨r, h1, ?_⟩
    split
    · rename_i hp
      rw [if_pos hp] at h3
      intro a w hh
      exact h3 a w (here_prefix (by simpa using hfree) ho hh)
    · rename_i hp
      rw [if_neg hp] at h3
      intro Q a w hh
      exact h3 Q a w (here_prefix (by simpa using hfree) ho hh)
  · intro a w' inv
    have := chain_fin (w := w) hfree hnl hal hf inv
    simpa using this
  · refine ⟨bel_drew (Below.refl _ _), rfl, rfl, by simp, fun t _ => rfl, fun j oj hj hl => ?_⟩
    exfalso
    rw [getD_replicate_false] at hl
    cases hl
  · intro t _; exact getD_replicate_false _ _
  · simp [left]
  · intro j oj hj hl
    rw [getD_replicate_false] at hl
    cases hl
theorem noP_no {Q : Exit → Act → World → Prop} : ¬ LetsOut (NoP Q) := fun ⟨_, _, h⟩ => h
theorem any_in {r n : Nat} {P : Program} {md : Region.Mode} {ops : Array Oper} {Q : Exit → Act → World → Prop} (hno : ¬ LetsOut Q) (hd : ops.all noDefer = true) : ∀ (fuel : Nat) (listed : Array Bool) (a : Act) (w : World), wpAny P md ops Q fuel listed a w → wpAnyIn (Fence.wide.inRound r) n P md ops Q fuel listed a w
  | 0, _, _, _, h => h
  | fuel + 1, listed, a, w, h => ⟨h.1, fun i hi => by
    have h2 := h.2 i hi
    unfold wpOp at h2
    unfold wpOpIn
    cases ho : ops[i]? with
    | none => simp only [ho] at h2 ⊢; exact any_in hno hd fuel _ a w h2
    | some o =>
      have hod : noDefer o = true := by
        rw [Array.all_eq_true] at hd
        obtain ⟨hlt, rfl⟩ := Array.getElem?_eq_some_iff.1 ho
        exact hd i hlt
      simp only [ho] at h2 ⊢
      by_cases hw : Region.wanted o (yielded ops a.tmps) = true
      · rw [if_pos hw] at h2 ⊢
        rcases h2 with h2 | ⟨_, h2⟩
        · exact oper_in hod (fun a w h => any_in hno hd fuel _ a w h) h2
        · exact (hno h2).elim
      · rw [if_neg hw] at h2 ⊢
        exact ⟨fun _ _ => trivial, any_in hno hd fuel _ _ w h2⟩⟩
theorem regionD_in {r n id : Nat} {P : Program} {l : List Oper} {Q : Exit → Act → World → Prop} {a : Act} {w : World} (hm : P.follows .mixedOrders = true) (hd : l.all noDefer = true) (h : wpAny P .any l.toArray (NoP Q) l.toArray.size (Array.replicate l.toArray.size false) a { w with drawn := w.drawn + 1 }) : (Code.region id l.toArray true).wpIn (Fence.wide.inRound r) n P Q a w :=
  wpIn_mono (wpIn_region_any hm (any_in noP_no (by simpa using hd) _ _ _ _ h)) (fun e a w q => by cases e <;> first | exact q | exact q.elim)
theorem chainRIn {r m id : Nat} {P : Program} {Q : Exit → Act → World → Prop} {l : List Oper} {l0 : List Value} {ds : List Deferred} {w : World} (n : Nat) (hm : P.follows .mixedOrders = true) (hd : l.all noDefer = true) (hB : chB l.toArray n l0.length = true)
    (h : ChainR n P l.toArray w ⟨l0.toArray, ds⟩ 0 [] (l.take n) fun acc => ∀ (vs : Nat → Value) (w' : World), Below w.heap.size w w' → Facts acc vs 0 w' → wpList P l.toArray (NoP Q) (l.drop n) ⟨(fill (l.take n) acc vs 0 l0).toArray, ds⟩ w') :
    (Code.region id l.toArray true).wpIn (Fence.wide.inRound r) m P Q ⟨l0.toArray, ds⟩ w := regionD_in hm hd (chainAny n hB (h rfl))
section
variable {P : Program} {Q : Exit → Act → World → Prop} {S : World → Prop} {l : List Oper} {l0 : List Value} {ds : List Deferred} {w : World} {o : Oper} {n i j d : Nat} {bs : List Bool}
theorem heldBeginIn {r m id : Nat} (n : Nat) (hm : P.follows .mixedOrders = true) (hd : l.all noDefer = true) (hn : l.length = n) (h : Held P l Q S n (List.replicate n false) l0 ds w.drew) : (Code.region id l.toArray true).wpIn (Fence.wide.inRound r) m P Q ⟨l0.toArray, ds⟩ w := by
  refine regionD_in hm hd ?_
  have e : l.toArray.size = n := by simpa using hn
  rw [e]
  have e2 : (Array.replicate n false) = (List.replicate n false).toArray := by simp
  rw [e2]
  exact wpAny_of_held _ _ _ _ h
/-- either comes first -/
def HOp (P : Program) (l : List Oper) (Q : Exit → Act → World → Prop) (S : World → Prop) (n : Nat) (bs : List Bool) (l0 : List Value) (ds : List Deferred) (w : World) (i : Nat) : Prop :=
  wpOp P l.toArray (NoP Q) i (fun a w' => S w' ∧ wpAnyH P .any l.toArray (NoP Q) S n (bs.toArray.setIfInBounds i true) a w') ⟨l0.toArray, ds⟩ w
theorem heldTwo (hr : Region.ready .any l.toArray bs.toArray = [i, j]) (h1 : HOp P l Q S n bs l0 ds w i) (h2 : HOp P l Q S n bs l0 ds w j) : Held P l Q S (n + 1) bs l0 ds w := by
  refine wpAnyH_all hr (by simp) fun k hk => ?_
  simp only [List.mem_cons, List.not_mem_nil, or_false] at hk
  rcases hk with rfl | rfl
  · exact h1
  · exact h2
theorem hopRun (hi : l[i]? = some o) (hg : o.guard = none) (hd : o.dst = some d) {v : Value} {w' : World} (hrun : (execOp (ev l0) o).run P w = .ok (.value v) w') (hS : S w') (h : Held P l Q S n (bs.set i true) (l0.set d v) ds w') : HOp P l Q S n bs l0 ds w i := by
  unfold HOp wpOp
  have hi' : l.toArray[i]? = some o := by simpa using hi
  simp only [hi']
  rw [if_pos (wn hg)]
  refine .inl ?_
  unfold Oper.wp
  rw [ev_eq, hrun]
  refine ⟨hS, ?_⟩
  rw [hd, put_eq]
  have : bs.toArray.setIfInBounds i true = (bs.set i true).toArray := by simp
  rw [this]; exact h
theorem hopAppend {t e : TypeId} {size bytes : Nat} {z : Value} (T : TI P t e size bytes z) (s x : Operand)
    (hi : l[i]? = some o) (hg : o.guard = none) (hd : o.dst = some d) (ho : o.op = .call { callee := .builtin .append, args := #[s, x], argTypes := #[t, t] })
    (base : Nat) {v : Value} {m : Nat} {xs : List Value} (hs : ev l0 s = v) (hown : w.ownsRow base e size v m xs) {xv : Value} {k : Nat} {news : List Value} (hx : ev l0 x = xv) (hsl : SlR w xv size k news)
    (h1 : ∀ u ∈ news, u.oneCell' = true) (h63 : m + k ≤ maxLen) (hbytes : (m + k) * bytes ≤ 140737488355328) (hbase : base ≤ w.heap.size)
    (h : ∀ v' w', w'.ownsRow base e size v' (m + k) (xs ++ news) → w.grownBy w' v.ownBlock → (v'.ownBlock = v.ownBlock ∨ v'.ownBlock = some w.heap.size) → S w' ∧ Held P l Q S n (bs.set i true) (l0.set d v') ds w') : HOp P l Q S n bs l0 ds w i := by
  obtain ⟨v', w', hrun, h2, h3, _⟩ := run_append_sl T o.type w base hown hsl h1 h63 hbytes hbase
  have := h v' w' h2 h3 (append_where T o.type w base hown hsl h1 h63 hbytes hrun)
  exact hopRun hi hg hd (by simp [execOp, ho, resolve, hs, hx, invoke, builtin, hrun]) this.1 this.2
end
section
variable {P : Program} {Q : Exit → Act → World → Prop} {S : World → Prop} {l : List Oper} {l0 : List Value} {ds : List Deferred} {w : World}
/-- a head in any order, the tail behind it in the text's -/
def tailB (l : List Oper) (n fr : Nat) : Bool := freeB l.toArray fr && decide (n < l.length) && Region.seqB .any l.toArray (l.length - n) n (headListed n (l.length - n)) && (l.take n).all (gdB n) &&
  ((List.range n).all fun i => (anc l.toArray n (deps l.toArray n)).contains i) && ((List.range (l.length - n - 1)).all fun t => (deps l.toArray (n + 1 + t)).any fun k => decide (n ≤ k))
def TailQ (P : Program) (l : List Oper) (n : Nat) (Q : Exit → Act → World → Prop) : Exit → Act → World → Prop := fun e a w => e = .normal ∧ wpList P l.toArray Q (l.drop n) a w
theorem oper_mono {o : Oper} {a : Act} {w : World} {next next' : Act → World → Prop} {Q Q' : Exit → Act → World → Prop} (hn : ∀ a w, next a w → next' a w) (hQ : ∀ c a w, ¬ Q (.panic c) a w) (hL : ¬ LetsOut Q) (h : o.wp P a w next Q) : o.wp P a w next' Q' := by
  unfold Oper.wp at h ⊢
  revert h
  cases (execOp a.eval o).run P w with
  | ok v w' =>
    cases v with
    | value v => exact hn _ _
    | skip => exact hn _ _
    | defer d => exact hn _ _
    | enter f args =>
      intro h
      refine Calls.mono h ?_
      rintro e w2 h2
      cases e with
      | returned v => exact hn _ _ h2
      | panicked c => exact (hQ _ _ _ h2).elim
      | outgrown => exact (hL h2).elim
    | row row args => exact fun h => Rows.mono h fun v w2 h2 => hn _ _ h2
    | _ => exact fun h => h.elim
  | halt s w' =>
    cases s with
    | panic v => exact fun h => (hQ _ _ _ h).elim
    | _ => exact fun h => h.elim
theorem full_getD (L : List Bool) (m k : Nat) (d : Bool) (h : k < L.length) : (L ++ List.replicate m false).toArray.getD k d = L.toArray.getD k d := by
  simp only [Array.getD_eq_getD_getElem?, List.getElem?_toArray]
  rw [List.getElem?_append_left h]
theorem any_tail {n fr : Nat} (hB : tailB l n fr = true) : ∀ (fuel : Nat) (L : List Bool) (a : Act) (w : World), L.length = n → (L.filter (!·)).length = fuel → Closed l.toArray (L ++ List.replicate (l.length - n) false).toArray →
    wpAny P .any (l.take n).toArray (NoP (TailQ P l n Q)) fuel L.toArray a w → wpAny P .any l.toArray Q (fuel + (l.length - n)) (L ++ List.replicate (l.length - n) false).toArray a w := by
  simp only [tailB, Bool.and_eq_true, decide_eq_true_eq] at hB
  obtain ⟨⟨⟨⟨⟨hfree, hnl⟩, hseq⟩, hgd⟩, hanc⟩, hdep⟩ := hB
  have seqd : ∀ (L : List Bool) (a : Act) (w : World), L.length = n → (∀ b ∈ L, b = true) → wpList P l.toArray Q (l.drop n) a w → wpAny P .any l.toArray Q (l.length - n) (L ++ List.replicate (l.length - n) false).toArray a w := by
    intro L a w hL hall h
    have e : L = List.replicate n true := by rw [← hL]; exact List.eq_replicate_iff.2 ⟨rfl, hall⟩
    have h2 := wpAny_of_seq (P := P) (ops := l.toArray) (md := .any) (Q' := Q) (l.drop n) n (headListed n (l.length - n)) a w (fun j => by simp [List.getElem?_drop]) (by simpa using hseq) h
    rw [List.length_drop] at h2
    rw [e]; exact h2
  intro fuel
  induction fuel with
  | zero =>
    intro L a w hL hf _ h
    rw [Nat.zero_add]
    refine seqd L a w hL (fun b hb => ?_) h.2.2
    cases b with
    | true => rfl
    | false =>
      have : false ∈ L.filter (!·) := List.mem_filter.2 ⟨hb, rfl⟩
      rw [List.eq_nil_of_length_eq_zero hf] at this; cases this
  | succ fuel ih =>
    intro L a w hL hf hcl h
    have hready : ∀ i, i ∈ Region.ready .any l.toArray (L ++ List.replicate (l.length - n) false).toArray → i < n ∧ i ∈ Region.ready .any (l.take n).toArray L.toArray := by
      intro i hi
      have hin : i < n := by
        apply Classical.byContradiction
        intro hge
        obtain ⟨_, o, ho, hall⟩ := mem_ready.1 hi
        have hil : i < l.length := by have := (Array.getElem?_eq_some_iff.1 ho).1; simpa using this
        by_cases hi0 : i = n
        · subst hi0
          have hex : ∃ k, k < L.length ∧ L[k]? = some false := by
            have hm : 0 < (L.filter (!·)).length := by omega
            obtain ⟨b, hb⟩ := List.exists_mem_of_length_pos hm
            obtain ⟨hb1, hb2⟩ := List.mem_filter.1 hb
            obtain ⟨k, hk, e⟩ := List.getElem_of_mem hb1
            refine ⟨k, hk, ?_⟩
            rw [List.getElem?_eq_getElem hk, e]
            cases b <;> simp_all
          obtain ⟨k, hk, hkf⟩ := hex
          have h1 := anc_ready hcl (List.all_eq_true.1 hanc k (List.mem_range.2 (by omega))) hi
          rw [full_getD _ _ _ _ hk] at h1
          simp only [Array.getD_eq_getD_getElem?, List.getElem?_toArray, hkf] at h1
          cases h1
        · have h1 := List.all_eq_true.1 hdep (i - n - 1) (List.mem_range.2 (by omega))
          rw [show n + 1 + (i - n - 1) = i by omega, List.any_eq_true] at h1
          obtain ⟨k, hk, hkn⟩ := h1
          unfold deps at hk
          rw [ho] at hk
          obtain ⟨e, he, rfl⟩ := List.mem_map.1 hk
          obtain ⟨he1, he2⟩ := List.mem_filter.1 he
          have h3 := hall e (by simpa using he1) he2
          simp only [decide_eq_true_eq] at hkn
          simp only [Array.getD_eq_getD_getElem?, List.getElem?_toArray] at h3
          rw [List.getElem?_append_right (by omega), List.getElem?_replicate] at h3
          split at h3 <;> cases h3
      refine ⟨hin, ?_⟩
      obtain ⟨h1, o, ho, hall⟩ := mem_ready.1 hi
      refine mem_ready.2 ⟨by rw [full_getD _ _ _ _ (by omega)] at h1; exact h1, o, by rw [List.getElem?_toArray, List.getElem?_take_of_lt hin]; simpa using ho, fun e he hb => ?_⟩
      have h4 := hall e he hb
      have h5 := (freeB_spec hfree i o ho).1 e he hb
      rwa [full_getD _ _ _ _ (by omega)] at h4
    rw [show fuel + 1 + (l.length - n) = (fuel + (l.length - n)) + 1 by omega]
    refine ⟨fun h0 => ?_, fun i hi => ?_⟩
    · exfalso
      have hex : ∃ k, k < n ∧ L[k]? = some false ∧ ∀ j, j < k → L[j]? = some true := by
        have hex0 : ∃ k, k < n ∧ L[k]? = some false := by
          have hm : 0 < (L.filter (!·)).length := by omega
          obtain ⟨b, hb⟩ := List.exists_mem_of_length_pos hm
          obtain ⟨hb1, hb2⟩ := List.mem_filter.1 hb
          obtain ⟨k, hk, e⟩ := List.getElem_of_mem hb1
          refine ⟨k, by omega, ?_⟩
          rw [List.getElem?_eq_getElem hk, e]
          cases b <;> simp_all
        obtain ⟨k, hk⟩ := hex0
        induction k using Nat.strongRecOn with
        | _ k ihk =>
          by_cases hlow : ∃ i, i < k ∧ L[i]? = some false
          · obtain ⟨i, hik, hli⟩ := hlow
            exact ihk i hik ⟨by omega, hli⟩
          · refine ⟨k, hk.1, hk.2, fun i hi => ?_⟩
            have hil : i < L.length := by omega
            cases hb : L[i] with
            | true => rw [List.getElem?_eq_getElem hil, hb]
            | false => exact absurd ⟨i, hi, by rw [List.getElem?_eq_getElem hil, hb]⟩ hlow
      obtain ⟨k, hk, hkf, hlow⟩ := hex
      have hkr : k ∈ Region.ready .any l.toArray (L ++ List.replicate (l.length - n) false).toArray := by
        refine mem_ready.2 ⟨?_, l[k], by simp, fun e he hb => ?_⟩
        · rw [full_getD _ _ _ _ (by omega)]
          simp only [Array.getD_eq_getD_getElem?, List.getElem?_toArray, hkf]; rfl
        · have h5 := (freeB_spec hfree k l[k] (by simp)).1 e he hb
          rw [full_getD _ _ _ _ (by omega)]
          simp only [Array.getD_eq_getD_getElem?, List.getElem?_toArray, hlow _ h5]; rfl
      rw [h0] at hkr; cases hkr
    · obtain ⟨hin, hir⟩ := hready i hi
      have h2 := h.2 i hir
      have hset : (L ++ List.replicate (l.length - n) false).toArray.setIfInBounds i true = (L.set i true ++ List.replicate (l.length - n) false).toArray := by
        rw [List.setIfInBounds_toArray, List.set_append_left _ _ (by omega)]
      have hset2 : L.toArray.setIfInBounds i true = (L.set i true).toArray := by simp
      have hfi : L[i]? = some false := by
        have := (mem_ready.1 hir).1
        simp only [Array.getD_eq_getD_getElem?, List.getElem?_toArray] at this
        rw [List.getElem?_eq_getElem (by omega)] at this ⊢
        simp only [Option.getD_some] at this
        rw [this]
      have hcnt : ((L.set i true).filter (!·)).length = fuel := by
        have hil : i < L.length := by omega
        have e1 : L = L.take i ++ false :: L.drop (i + 1) := by
          rw [List.getElem?_eq_getElem hil] at hfi
          rw [← Option.some.inj hfi, List.getElem_cons_drop, List.take_append_drop]
        have e2 : L.set i true = L.take i ++ true :: L.drop (i + 1) := List.set_eq_take_append_cons_drop .. |>.trans (by rw [if_pos hil])
        rw [e2]
        rw [e1] at hf
        simp only [List.filter_append, List.filter_cons, List.length_append] at hf ⊢
        simp at hf ⊢
        omega
      have hcl2 := hcl.next hi
      rw [hset] at hcl2 ⊢
      have hK := fun (a : Act) (w : World) (hh : wpAny P .any (l.take n).toArray (NoP (TailQ P l n Q)) fuel (L.set i true).toArray a w) => ih (L.set i true) a w (by simpa using hL) hcnt hcl2 hh
      rw [hset2] at h2
      have hil : i < l.length := by omega
      have ho1 : (l.take n).toArray[i]? = some l[i] := by rw [List.getElem?_toArray, List.getElem?_take_of_lt hin]; simp
      have ho2 : l.toArray[i]? = some l[i] := by simp
      unfold wpOp at h2 ⊢
      simp only [ho1] at h2
      simp only [ho2]
      have hgi : gdB n l[i] = true := List.all_eq_true.1 hgd _ (List.mem_take_iff_getElem.2 ⟨i, by omega, rfl⟩)
      rw [wanted_take hgi] at h2
      by_cases hw : Region.wanted l[i] (yielded l.toArray a.tmps) = true
      · rw [if_pos hw] at h2 ⊢
        rcases h2 with h2 | ⟨_, h2⟩
        · exact .inl (oper_mono hK (fun _ _ _ h => h) noP_no h2)
        · exact (noP_no h2).elim
      · rw [if_neg hw] at h2 ⊢
        exact hK _ _ h2
theorem tail_all (n : Nat) (hB : tailB l n l0.length = true) (h : Held P (l.take n) (TailQ P l n (NoP Q)) S n (List.replicate n false) l0 ds w.drew) : wpAny P .any l.toArray (NoP Q) l.toArray.size (Array.replicate l.toArray.size false) ⟨l0.toArray, ds⟩ { w with drawn := w.drawn + 1 } := by
  have hnl : n < l.length := by simp only [tailB, Bool.and_eq_true, decide_eq_true_eq] at hB; exact hB.1.1.1.1.2
  have h2 := any_tail (P := P) (Q := NoP Q) hB n (List.replicate n false) ⟨l0.toArray, ds⟩ w.drew (by simp) (by simp) (by
    intro j oj _ hl
    exfalso
    rw [List.replicate_append_replicate, Array.getD_eq_getD_getElem?, List.getElem?_toArray, List.getElem?_replicate] at hl
    split at hl <;> cases hl) (by
    have h3 := wpAny_of_held _ _ _ _ h
    have e2 : (List.replicate n false).toArray = Array.replicate n false := by simp
    rw [e2] at h3 ⊢
    exact h3)
  have e : n + (l.length - n) = l.length := by omega
  rw [e, List.replicate_append_replicate, e] at h2
  simpa using h2
theorem heldTail {id : Nat} (n : Nat) (hm : P.follows .mixedOrders = true) (hB : tailB l n l0.length = true) (h : Held P (l.take n) (TailQ P l n (NoP Q)) S n (List.replicate n false) l0 ds w.drew) : (Code.region id l.toArray true).wp P Q ⟨l0.toArray, ds⟩ w := by
  refine wp_mono (Q := NoP Q) ?_ (fun e a w q => by cases e <;> first | exact q | exact q.elim)
  exact wp_region_any hm (tail_all n hB h)
theorem heldTailIn {r m id : Nat} (n : Nat) (hm : P.follows .mixedOrders = true) (hd : l.all noDefer = true) (hB : tailB l n l0.length = true) (h : Held P (l.take n) (TailQ P l n (NoP Q)) S n (List.replicate n false) l0 ds w.drew) : (Code.region id l.toArray true).wpIn (Fence.wide.inRound r) m P Q ⟨l0.toArray, ds⟩ w := regionD_in hm hd (tail_all n hB h)
end
section
variable {P : Program} {Q : Exit → Act → World → Prop} {S : World → Prop} {l : List Oper} {l0 : List Value} {ds : List Deferred} {w : World} {n i j : Nat} {bs : List Bool}
theorem blk_grown {w w' : World} {t : Nat} {T : TypeId} {cs : List Value} {row : Option Nat} (h : Blk w t T cs) (hg : w.grownBy w' row) (hne : row ≠ some t) : Blk w' t T cs := (hg.block _ h.lt (fun e => hne e.symm)).trans h
theorem grown_same {w1 w2 w3 : World} {g : Option Nat} (h1 : w1.grownBy w2 g) (h2 : w2.grownBy w3 g) : w1.grownBy w3 g :=
  ⟨h2.os.trans h1.os, h2.tape.trans h1.tape, h2.output.trans h1.output, Nat.le_trans h1.size h2.size, fun k hk hne => (h2.block k (Nat.lt_of_lt_of_le hk h1.size) hne).trans (h1.block k hk hne)⟩
theorem grown_alloc (w : World) (o : Obj) (g : Option Nat) : w.grownBy (w.alloc o) g := by
  have hb : Below w.heap.size w (w.alloc o) := (Below.refl _ w).alloc (Nat.le_refl _) o
  exact ⟨hb.os, hb.tape, hb.output, hb.size, fun k hk _ => hb.block k hk⟩
/-- append and a literal of one, of which either may come first -/
theorem heldPair {t e t2 e2 : TypeId} {size bytes : Nat} {z : Value} (T : TI P t e size bytes z) {o1 o2 : Oper} {d1 d2 : Nat} (s x y : Operand) (hr : Region.ready .any l.toArray bs.toArray = [i, j]) (hr1 : Region.ready .any l.toArray (bs.set i true).toArray = [j]) (hr2 : Region.ready .any l.toArray (bs.set j true).toArray = [i])
    (hi : l[i]? = some o1) (hg1 : o1.guard = none) (hd1 : o1.dst = some d1) (ho1 : o1.op = .call { callee := .builtin .append, args := #[s, x], argTypes := #[t, t] })
    (hj : l[j]? = some o2) (hg2 : o2.guard = none) (hd2 : o2.dst = some d2) (ho2 : o2.op = .buildSlice t2 1 #[(0, y)]) (hne : i ≠ j) (hdn : d1 ≠ d2) (hys : ∀ v, ev (l0.set d1 v) y = ev l0 y) (hss : ∀ v, ev (l0.set d2 v) s = ev l0 s) (hxs : ∀ v, ev (l0.set d2 v) x = ev l0 x)
    (base : Nat) {v : Value} {m : Nat} {xs : List Value} (hs : ev l0 s = v) (hown : w.ownsRow base e size v m xs) {xv : Value} {k : Nat} {news : List Value} (hx : ev l0 x = xv) (hsl : SlR w xv size k news)
    (h1 : ∀ u ∈ news, u.oneCell' = true) (h63 : m + k ≤ maxLen) (hbytes : (m + k) * bytes ≤ 140737488355328) (hbase : base ≤ w.heap.size)
    (cs : Array Value) (hlit : ∀ W : World, (Instr.buildSlice t2 1 #[(0, ev l0 y)]).run P W = .ok (.slice (some ⟨W.heap.size, 0, none⟩) 1 1) (W.alloc (.cells cs e2)))
    (hS : ∀ w', w.grownBy w' v.ownBlock → S w')
    (h : ∀ v' p w', w'.ownsRow base e size v' (m + k) (xs ++ news) → Blk w' p e2 cs.toList → w.heap.size ≤ p → w.grownBy w' v.ownBlock → Held P l Q S n ((bs.set i true).set j true) ((l0.set d1 v').set d2 (.slice (some ⟨p, 0, none⟩) 1 1)) ds w') : Held P l Q S (n + 1 + 1) bs l0 ds w := by
  have hob : ∀ r, v.ownBlock = some r → r < w.heap.size := by
    intro r hr
    rcases hown.2 with ⟨rfl, _⟩ | ⟨g, cap, cur, rfl, _, h3, _⟩
    · simp [Value.ownBlock] at hr
    · obtain rfl : g = r := by simpa [Value.ownBlock] using hr
      exact (Array.getElem?_eq_some_iff.1 h3).1
  refine heldTwo hr ?_ ?_
  · refine hopAppend T s x hi hg1 hd1 ho1 base hs hown hx hsl h1 h63 hbytes hbase (fun v' w1 ho hg _ => ⟨hS w1 hg, ?_⟩)
    refine heldOne hr1 hj hg2 hd2 (v := .slice (some ⟨w1.heap.size, 0, none⟩) 1 1) (w' := w1.alloc (.cells cs e2)) ?_ (hS _ (grown_same hg (grown_alloc _ _ _))) ?_
    · exact run_buildSl (ps := [(0, y)]) cs ho2 (by simpa [hys] using hlit w1)
    · exact h v' w1.heap.size _ (ho.keep ((Below.refl _ _).alloc (Nat.le_refl _) _)) (Blk.new w1 e2 cs) hg.size (grown_same hg (grown_alloc _ _ _))
  · refine hopRun hj hg2 hd2 (v := .slice (some ⟨w.heap.size, 0, none⟩) 1 1) (w' := w.alloc (.cells cs e2)) ?_ (hS _ (grown_alloc _ _ _)) ?_
    · exact run_buildSl (ps := [(0, y)]) cs ho2 (by simpa using hlit w)
    · have hb : Below w.heap.size w (w.alloc (.cells cs e2)) := (Below.refl _ w).alloc (Nat.le_refl _) _
      refine heldAppend T s x hr2 (by simpa using hi) hg1 hd1 ho1 base ((hss _).trans hs) (hown.keep hb) ((hxs _).trans hx) (hsl.keep hb) h1 h63 hbytes (Nat.le_trans hbase hb.size) (fun v' w2 ho hg _ => ?_)
      have hgw := grown_same (grown_alloc w (.cells cs e2) v.ownBlock) hg
      refine ⟨hS w2 hgw, ?_⟩
      have hB := blk_grown (Blk.new w e2 cs) hg (fun e => by have := hob _ e; omega)
      have h2 := h v' w.heap.size w2 ho hB (Nat.le_refl _) hgw
      rw [List.set_comm _ _ hne, List.set_comm _ _ hdn] at h2
      exact h2
end
section
variable {P : Program} {l0 : List Value} {w : World} {o : Oper}
theorem run_bin2 {op : BinOp} {t t' : TypeId} {x y : Operand} {vx vy v : Value} (ho : o.op = .binOp op t x y t') (hx : ev l0 x = vx) (hy : ev l0 y = vy) (hg : ∀ w, (eqGuard op t x y vx vy).run P w = .ok () w) (hr : ∀ w, (binOp op t vx vy).run P w = .ok v w) : (execOp (ev l0) o).run P w = .ok (.value v) w := by
  simp only [execOp, ho, hx, hy, Sem.run_bind, hg, hr, Result.andThen_ok, Sem.run_pure]
theorem run_ar {op : BinOp} {t t' : TypeId} {x y : Operand} {k : IntKind} {m q : Int} (r : Int) (ho : o.op = .binOp op t x y t') (hx : ev l0 x = .int k m) (hy : ev l0 y = .int k q) (hr : (match op with | .add => some (k.wrap (m + q)) | .sub => some (k.wrap (m - q)) | .mul => some (k.wrap (m * q)) | _ => none) = some r) : (execOp (ev l0) o).run P w = .ok (.value (.int k r)) w := by
  refine run_bin2 ho hx hy (fun w => ?_) (fun w => ?_)
  · cases op <;> rfl
  · cases op <;> simp only [Option.some.injEq, reduceCtorEq] at hr <;> subst hr <;> cases k <;> rfl
theorem run_cv {s d : TypeId} {x : Operand} {k k' : IntKind} {m : Int} (r : Int) (hr : k'.wrap m = r) (hs : (P.underlying s).isSome = true) (hd : P.underlying d = some (.int k')) (ho : o.op = .convert s d x) (hx : ev l0 x = .int k m) : (execOp (ev l0) o).run P w = .ok (.value (.int k' r)) w := by
  subst hr
  cases hu : P.underlying s with
  | none => simp [hu] at hs
  | some u => simp [execOp, ho, hx, convert, run_underlying hu, run_underlying hd, Conv.intToInt]
end
/-- a loop over a function in a block that the body may leave -/
theorem range_blockR {α : Type} {P : Program} {g : Operand} {ps : Array Tmp} {assign body : Code} {Q : Exit → Act → World → Prop} {a : Act} {w : World} {gf id : Nat} {lb : Array Value} (hg : a.eval g = .func (.func gf) #[] lb)
    (eg : ∀ args w, (callFunc gf args).run P w = .ok (.enter gf args) w) {Enc : World → World → α → Array Value → Prop} {Ab Kp : World → World → Prop} {xs : List α} {Ok : World → Prop} (hit : IterR P gf lb Enc Ab Kp xs Ok)
    (hok : ∀ W, Below w.heap.size w W → Ok W) (hAb : ∀ A B, Ab A B → ∃ row, A.grownBy B row ∧ ∀ r, row = some r → r < w.heap.size)
    (hKt : ∀ A B C, Kp A B → Kp B C → Kp A C) (hKb : ∀ A B, Turn w.heap.size A B → Kp A B) (hps : ∀ A W x vs, Enc A W x vs → vs.size = ps.size)
    (I Ix : Nat → World → Prop) (hI : ∀ k A B, I k A → Turn w.heap.size A B → I k B) (hIx : ∀ k A B, Ix k A → Turn w.heap.size A B → Ix k B)
    (hIA : ∀ k A B, I k A → Ab A B → I k B) (hIxA : ∀ k A B, Ix k A → Ab A B → Ix k B) (h0 : ∀ W, Below w.heap.size w W → I 0 W)
    (hround : ∀ (l k : Nat) (hk : k < xs.length) (A W : World) (vs : Array Value), w.heap.size ≤ A.heap.size → I k A → Ab A W → Enc A W xs[k] vs → assign.wpIn (Fence.wide.inRound l) 1 P
      (Exit.then (fun a₁ W₁ => KeepsFrom w.heap.size W W₁ ∧ Kp W W₁ ∧ ∀ W₂, Turn w.heap.size W₁ W₂ → body.wpIn (Fence.wide.inRound l) 1 P (roundEnd w.heap.size Kp I (fun c k W => c = .exit id ∧ Ix k W) (k + 1) W₂) a₁ W₂) (fun _ _ _ => False))
      { tmps := (ps.zip vs).foldl (fun t (p, v) => t.setIfInBounds p v) a.tmps, defers := [] } W)
    (hdone : ∀ (D k : Nat) (W : World), w.heap.size ≤ D → k ≤ xs.length → (k = xs.length ∧ I k W ∨ Ix k W) → W.heap[D]? = some (.deferred (some [])) → Q .normal { a with defers := { target := .collected D, args := #[] } :: a.defers } W) :
    (Code.block id (Code.rangeFunc g ps assign body)).wp P Q a w := by
  refine wp_block ?_
  refine range_iterR hg eg hit hok hAb hKt hKb hps I (fun c k W => c = .exit id ∧ Ix k W) hI (fun c k A B h hT => ⟨h.1, hIx k A B h.2 hT⟩) hIA (fun c k A B h hab => ⟨h.1, hIxA k A B h.2 hab⟩) h0 hround ?_ ?_
  · intro D W hD hi hDl
    exact hdone D _ W hD (Nat.le_refl _) (.inl ⟨rfl, hi⟩) hDl
  · rintro D c k W hD hk ⟨rfl, hx⟩ hDl
    refine wp_exit ?_
    have h := hdone D k W hD hk (.inr hx) hDl
    simp only [Exit.inBlock]
    first | exact h | simpa using h
end Agg
