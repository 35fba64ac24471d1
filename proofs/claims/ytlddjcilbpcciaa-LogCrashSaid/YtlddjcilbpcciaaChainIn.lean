/-
  RANGE OVER A FUNCTION: an iterator whose values lie in memory. Over any program.
-/
import Derived.Test.YtlddjcilbpcciaaLFdDvN
import Derived.Test.YtlddjcilbpcciaaChain2
section
namespace Agg
open Go Go.RowKit
/-- an iterator that tells a list, each element by values of which no more is known than Enc -/
def IterR {α : Type} (P : Program) (g : Nat) (lb : Array Value) (Enc : World → World → α → Array Value → Prop) (Ab Kp : World → World → Prop) (xs : List α) (Ok : World → Prop) : Prop :=
  ∀ (l : Nat) (J Jx : Nat → World → Prop) (W : World), Ok W → (∀ k A B, J k A → Ab A B → J k B) → (∀ k A B, Jx k A → Ab A B → Jx k B) →
    (∀ (k : Nat) (hk : k < xs.length) (A W1 : World) (vs : Array Value), J k A → Ab A W1 → Enc A W1 xs[k] vs → YieldAt Fence.wide 1 P l vs W1 fun e W' =>
      (e = .returned (.bool true) ∧ J (k + 1) W' ∧ Kp W1 W') ∨ (e = .returned (.bool false) ∧ Jx (k + 1) W')) →
    J 0 W → Calls P g (#[.func (.yield l) #[] #[]] ++ lb) W fun e W' => (∃ v, e = .returned v) ∧ (J xs.length W' ∨ ∃ k, k ≤ xs.length ∧ Jx k W')
theorem range_iterR {α : Type} {P : Program} {g : Operand} {ps : Array Tmp} {assign body : Code} {Q : Exit → Act → World → Prop} {a : Act} {w : World} {gf : Nat} {lb : Array Value} (hg : a.eval g = .func (.func gf) #[] lb)
    (eg : ∀ args w, (callFunc gf args).run P w = .ok (.enter gf args) w) {Enc : World → World → α → Array Value → Prop} {Ab Kp : World → World → Prop} {xs : List α} {Ok : World → Prop} (hit : IterR P gf lb Enc Ab Kp xs Ok)
    (hok : ∀ W, Below w.heap.size w W → Ok W) (hAb : ∀ A B, Ab A B → ∃ row, A.grownBy B row ∧ ∀ r, row = some r → r < w.heap.size)
    (hKt : ∀ A B C, Kp A B → Kp B C → Kp A C) (hKb : ∀ A B, Turn w.heap.size A B → Kp A B) (hps : ∀ A W x vs, Enc A W x vs → vs.size = ps.size)
    (I : Nat → World → Prop) (Ix : Code → Nat → World → Prop) (hI : ∀ k A B, I k A → Turn w.heap.size A B → I k B) (hIx : ∀ c k A B, Ix c k A → Turn w.heap.size A B → Ix c k B)
    (hIA : ∀ k A B, I k A → Ab A B → I k B) (hIxA : ∀ c k A B, Ix c k A → Ab A B → Ix c k B) (h0 : ∀ W, Below w.heap.size w W → I 0 W)
    (hround : ∀ (l k : Nat) (hk : k < xs.length) (A W : World) (vs : Array Value), w.heap.size ≤ A.heap.size → I k A → Ab A W → Enc A W xs[k] vs → assign.wpIn (Fence.wide.inRound l) 1 P
      (Exit.then (fun a₁ W₁ => KeepsFrom w.heap.size W W₁ ∧ Kp W W₁ ∧ ∀ W₂, Turn w.heap.size W₁ W₂ → body.wpIn (Fence.wide.inRound l) 1 P (roundEnd w.heap.size Kp I Ix (k + 1) W₂) a₁ W₂) (fun _ _ _ => False))
      { tmps := (ps.zip vs).foldl (fun t (p, v) => t.setIfInBounds p v) a.tmps, defers := [] } W)
    (hdone : ∀ (D : Nat) (W : World), w.heap.size ≤ D → I xs.length W → W.heap[D]? = some (.deferred (some [])) → Q .normal { a with defers := { target := .collected D, args := #[] } :: a.defers } W)
    (hstop : ∀ (D : Nat) (c : Code) (k : Nat) (W : World), w.heap.size ≤ D → k ≤ xs.length → Ix c k W → W.heap[D]? = some (.deferred (some [])) → c.wp P Q { a with defers := { target := .collected D, args := #[] } :: a.defers } W) :
    (Code.rangeFunc g ps assign body).wp P Q a w := by
  refine (wpIn_wide (n := 3)).1 (wpIn_rangeFunc ?_)
  intro fn hfn
  obtain ⟨rec, hrec⟩ : ∃ rec : LoopState → Option Code → Loop, rec = fun st pe => { state := st, pending := pe, fn, tmps := a.tmps, params := ps, assign, body, defers := w.heap.size } := ⟨_, rfl⟩
  obtain ⟨W1, hW1⟩ : ∃ W1, (w.alloc (.deferred (some []))).alloc (.loop (rec .ready none)) = W1 := ⟨_, rfl⟩
  have hL1 : W1.heap[w.heap.size + 1]? = some (.loop (rec .ready none)) := by
    rw [← hW1]; have := World.alloc_heap_new (w.alloc (.deferred (some []))) (.loop (rec .ready none)); rwa [World.size_alloc] at this
  have hK1 : W1.heap[w.heap.size]? = some (.deferred (some [])) := by
    rw [← hW1]; exact (Below.heap_alloc _ _ _ (by simp)).trans (World.alloc_heap_new w _)
  have hb1 : Below w.heap.size w W1 := by
    rw [← hW1]; exact ((Below.refl _ w).alloc (Nat.le_refl _) _).alloc (by simp) _
  have put : ∀ {W : World} {l : Nat} {o : Obj} (o' : Obj), w.heap.size ≤ l → W.heap[l]? = some o → o.isCells = false → Turn w.heap.size W (W.putObj l o') := fun o' h1 h2 h3 => ⟨_, _, o', rfl, h1, h2, h3⟩
  refine ⟨w.heap.size + 1, [{ target := .collected w.heap.size, args := #[] }], W1, { target := .fn (.func gf) lb, args := #[.func (.yield (w.heap.size + 1)) #[] #[]] }, W1, gf,
    #[.func (.yield (w.heap.size + 1)) #[] #[]] ++ lb, W1, ?_, ?_, fun _ _ => trivial, ?_, fun e => (by cases e), ?_⟩
  · rw [← hW1, hrec]; exact run_enterLoop_outer _ _ _ _ _
  · simp only [resolve, hg]
    simp [go_sem]
  · simp [invoke, go_sem, eg]
  · have keep : ∀ {A B : World} {l : Nat} {o : Obj}, Ab A B → w.heap.size ≤ l → A.heap[l]? = some o → B.heap[l]? = some o := fun {A B l o} hab hl ho => by
      obtain ⟨row, hgr, hlt⟩ := hAb A B hab
      rw [hgr.block l (Array.getElem?_eq_some_iff.1 ho).1 (fun e => by have := hlt l e.symm; omega)]
      exact ho
    refine (callsIn_wide (n := 3 - 1)).2 (Calls.mono (hit (w.heap.size + 1)
      (fun k W => (I k W ∧ w.heap.size ≤ W.heap.size) ∧ W.heap[w.heap.size + 1]? = some (.loop (rec .ready none)) ∧ W.heap[w.heap.size]? = some (.deferred (some [])))
      (fun k W => ∃ c, Ix c k W ∧ W.heap[w.heap.size + 1]? = some (.loop (rec .done (some c))) ∧ W.heap[w.heap.size]? = some (.deferred (some [])))
      W1 (hok W1 hb1)
      (fun k A B hs hab => ⟨⟨hIA k A B hs.1.1 hab, by obtain ⟨row, hgr, _⟩ := hAb A B hab; exact Nat.le_trans hs.1.2 hgr.size⟩, keep hab (by omega) hs.2.1, keep hab (Nat.le_refl _) hs.2.2⟩)
      (fun k A B hs hab => by
        obtain ⟨c, hc, hl, hk⟩ := hs
        exact ⟨c, hIxA c k A B hc hab, keep hab (by omega) hl, keep hab (Nat.le_refl _) hk⟩)
      ?_ ⟨⟨h0 W1 hb1, hb1.size⟩, hL1, hK1⟩) ?_)
    · rintro k hlen A W vs ⟨⟨hi, hsz⟩, hl, hk⟩ hab henc
      replace hl := keep hab (by omega) hl
      replace hk := keep hab (Nat.le_refl _) hk
      have hlt : w.heap.size + 1 < W.heap.size := (Array.getElem?_eq_some_iff.1 hl).1
      have hy := run_yield (P := P) (args := vs) hl (by rw [hrec]; exact hps _ _ _ _ henc)
      rw [hrec] at hy
      refine ⟨fn, _, assign, body, hy, roundIn_of_wpIn hfn (wpIn_mono (hround (w.heap.size + 1) k hlen A W vs hsz hi hab henc) ?_)⟩
      clear hy
      rintro e a' Wa hA
      cases e with
      | normal =>
        obtain ⟨hkfa, hkpa, hax⟩ := hA
        replace hl := hkfa.same _ _ (by omega) hl rfl
        replace hk := hkfa.same _ _ (Nat.le_refl _) hk rfl
        replace hlt : w.heap.size + 1 < Wa.heap.size := (Array.getElem?_eq_some_iff.1 hl).1
        refine ⟨_, run_beginRound hl (by rw [hrec]), ?_⟩
        have hl2 : (Wa.putObj (w.heap.size + 1) (.loop { rec .ready none with state := .busy })).heap[w.heap.size + 1]? = some (.loop { rec .ready none with state := .busy }) := World.putObj_heap_same hlt
        have hk2 : (Wa.putObj (w.heap.size + 1) (.loop { rec .ready none with state := .busy })).heap[w.heap.size]? = some (.deferred (some [])) := (World.putObj_heap_other (by omega)).trans hk
        have hT : Turn w.heap.size Wa (Wa.putObj (w.heap.size + 1) (.loop { rec .ready none with state := .busy })) := put _ (by omega) hl rfl
        refine wpIn_mono (hax _ hT) ?_
        have fin : ∀ (jump : Option Code) (W3 : World), KeepsFrom w.heap.size (Wa.putObj (w.heap.size + 1) (.loop { rec .ready none with state := .busy })) W3 →
            (Instr.endRound (w.heap.size + 1) jump).run P W3 = .ok (.bool jump.isNone) (W3.putObj (w.heap.size + 1) (.loop (rec (if jump.isNone then .ready else .done) jump))) ∧
            W3.heap[w.heap.size + 1]? = some (.loop { rec .ready none with state := .busy }) ∧
            (W3.putObj (w.heap.size + 1) (.loop (rec (if jump.isNone then .ready else .done) jump))).heap[w.heap.size + 1]? = some (.loop (rec (if jump.isNone then .ready else .done) jump)) ∧
            (W3.putObj (w.heap.size + 1) (.loop (rec (if jump.isNone then .ready else .done) jump))).heap[w.heap.size]? = some (.deferred (some [])) := fun jump W3 hk3 => by
          have hl3 := hk3.same _ _ (by omega) hl2 rfl
          have := run_endRound (P := P) jump hl3
          rw [hrec] at this ⊢
          exact ⟨this, by rw [hrec] at hl3; exact hl3, World.putObj_heap_same (Array.getElem?_eq_some_iff.1 hl3).1, (World.putObj_heap_other (by omega)).trans (hk3.same _ _ (Nat.le_refl _) hk2 rfl)⟩
        rintro e a3 W3 hp
        cases e with
        | normal =>
          obtain ⟨hk3, hkp3, hi3⟩ := hp
          obtain ⟨hr, hl3, hl4, hk4⟩ := fin none W3 hk3
          have hT3 : Turn w.heap.size W3 _ := put (.loop (rec .ready none)) (by omega) hl3 rfl
          exact ⟨_, _, hr, .inl ⟨rfl, ⟨⟨hI _ _ _ hi3 hT3, by rw [World.putObj_size]; have := hk3.size; rw [World.putObj_size] at this; omega⟩, hl4, hk4⟩, hKt _ _ _ hkpa (hKt _ _ _ (hKt _ _ _ (hKb _ _ hT) hkp3) (hKb _ _ hT3))⟩⟩
        | ret =>
          obtain ⟨hk3, hi3⟩ := hp
          obtain ⟨hr, hl3, hl4, hk4⟩ := fin (some .ret) W3 hk3
          exact ⟨_, _, hr, .inr ⟨rfl, .ret, hIx _ _ _ _ hi3 (put _ (by omega) hl3 rfl), hl4, hk4⟩⟩
        | exit id =>
          obtain ⟨hk3, hi3⟩ := hp
          obtain ⟨hr, hl3, hl4, hk4⟩ := fin (some (.exit id)) W3 hk3
          exact ⟨_, _, hr, .inr ⟨rfl, .exit id, hIx _ _ _ _ hi3 (put _ (by omega) hl3 rfl), hl4, hk4⟩⟩
        | goto t =>
          obtain ⟨hk3, hi3⟩ := hp
          obtain ⟨hr, hl3, hl4, hk4⟩ := fin (some (.goto t)) W3 hk3
          exact ⟨_, _, hr, .inr ⟨rfl, .goto t, hIx _ _ _ _ hi3 (put _ (by omega) hl3 rfl), hl4, hk4⟩⟩
        | panic ch => exact hp.elim
        | outgrown => exact hp.elim
      | _ => exact hA.elim
    · rintro e W2 ⟨⟨v, rfl⟩, (⟨⟨hi, _⟩, hl, hk⟩ | ⟨k, hk2, c, hi, hl, hk⟩)⟩
      · exact ⟨none, _, by have := run_endLoop (P := P) hl (by rw [hrec]; simp); rw [hrec] at this; exact this, hdone _ _ (Nat.le_refl _) (hI _ _ _ hi (put _ (by omega) hl rfl)) ((World.putObj_heap_other (by omega)).trans hk)⟩
      · exact ⟨some c, _, by have := run_endLoop (P := P) hl (by rw [hrec]; simp); rw [hrec] at this; exact this, wpIn_wide.2 (hstop _ c k _ (Nat.le_refl _) hk2 (hIx _ _ _ _ hi (put _ (by omega) hl rfl)) ((World.putObj_heap_other (by omega)).trans hk))⟩
/-- a world that is another one as far as that went -/
def Agr (n : Nat) (A B : World) : Prop := ∀ k, k < n → B.heap[k]? = A.heap[k]?
theorem Agr.trans {n : Nat} {A B C : World} (h1 : Agr n A B) (h2 : Agr n B C) : Agr n A C := fun k hk => (h2 k hk).trans (h1 k hk)
theorem Agr.refl (n : Nat) (A : World) : Agr n A A := fun _ _ => rfl
theorem Agr.mono {n m : Nat} {A B : World} (h : Agr n A B) (hm : m ≤ n) : Agr m A B := fun k hk => h k (Nat.lt_of_lt_of_le hk hm)
theorem agr_below {n : Nat} {A B : World} (h : Below n A B) : Agr n A B := fun k hk => h.block k hk
theorem SlR.agr {w w' : World} {v : Value} {sz n : Nat} {cs : List Value} (h : SlR w v sz n cs) (ha : Agr w.heap.size w w') : SlR w' v sz n cs := by
  refine ⟨h.1, ?_⟩
  rcases h.2 with h2 | ⟨x, cap, h3, h4, h5, h6⟩
  · exact .inl h2
  · refine .inr ⟨x, cap, h3, h4, h5, fun i u hu => ?_⟩
    have h7 := h6 i u hu
    have hlt := block_lt_of_cell h7
    rw [← h7]
    unfold World.cell?
    rw [ha _ hlt]
end Agg
end
section
/-
  REGIONS IN A FENCE: a head that is walked in the text's order, the rest (a round that is begun) in the fence. Over any program.
-/
namespace Agg
open Go Go.RowKit
theorem chainW {P : Program} {Q : Exit → Act → World → Prop} {l : List Oper} {l0 : List Value} {ds : List Deferred} {w : World} (n : Nat) (hB : (freeB l.toArray l0.length && decide (n ≤ l.length)) = true)
    (h : Chain n P l.toArray w ⟨l0.toArray, ds⟩ [] (l.take n) fun acc => ∀ (vs : Nat → Value) (w' : World), Below w.heap.size w w' → Facts acc vs 0 w' → wpList P l.toArray Q (l.drop n) ⟨(fill (l.take n) acc vs 0 l0).toArray, ds⟩ w') :
    wpList P l.toArray Q l ⟨l0.toArray, ds⟩ w := by
  simp only [Bool.and_eq_true, decide_eq_true_eq] at hB
  obtain ⟨hfree, hnl⟩ := hB
  obtain ⟨acc, hl, hf, hs⟩ := Chain.all _ _ h
  simp only [List.nil_append] at hf hs
  have htl : (l.take n).length = n := by rw [List.length_take]; omega
  have hal : acc.length = n := by rw [hl, htl]
  have := list_any (P := P) (Q := Q) (l := l) (W := w) (a0 := ⟨l0.toArray, ds⟩) (acc := acc) (n := n) (by simpa using hfree) hnl ?_ ?_ (fun a w' inv => chain_fin (w := w) hfree hnl hal hf inv) n 0 ⟨l0.toArray, ds⟩ w (by omega) ?_
  · simpa using this
  · intro r hr
    obtain ⟨j, hj, rfl⟩ := List.mem_iff_getElem.1 hr
    have hj2 : j < (l.take n).length := by omega
    obtain ⟨r, h1, h2, _⟩ := hs j _ (List.getElem?_eq_getElem hj2)
    rw [List.getElem?_eq_getElem hj] at h1
    rw [Option.some.inj h1]; exact h2
  · intro i o hi ho
    have ho' : (l.take n)[i]? = some o := by rw [List.getElem?_take_of_lt hi]; exact ho
    have ho2 : l.toArray[i]? = some o := by simpa using ho
    obtain ⟨r, h1, _, h3⟩ := hs i o ho'
    refine ⟨r, h1, ?_⟩
    split
    · rename_i hp
      rw [if_pos hp] at h3
      intro a w hh
      exact h3 a w (here_prefix (by simpa using hfree) ho2 hh)
    · rename_i hp
      rw [if_neg hp] at h3
      intro Q a w hh
      exact h3 Q a w (here_prefix (by simpa using hfree) ho2 hh)
  · refine ⟨Below.refl _ _, rfl, rfl, by simp [headListed], fun t _ => rfl, fun j oj hj hl => ?_⟩
    exfalso
    unfold headListed at hl
    rw [Array.getD_eq_getD_getElem?, List.getElem?_toArray] at hl
    simp [List.getElem?_replicate] at hl
    split at hl <;> simp at hl
theorem Chain.fin_mono {n : Nat} {P : Program} {ops : Array Oper} {W : World} {a0 : Act} {fin fin' : List R → Prop} (hf : ∀ acc, fin acc → fin' acc) : ∀ (rest : List Oper) (acc : List R), Chain n P ops W a0 acc rest fin → Chain n P ops W a0 acc rest fin'
  | [], _, h => hf _ h
  | _ :: rest, _, ⟨r, h1, h2, h3⟩ => ⟨r, h1, h2, Chain.fin_mono hf rest _ h3⟩
theorem oper_wide {n : Nat} {P : Program} {o : Oper} {a : Act} {w : World} {next next' : Act → World → Prop} {Q Q' : Exit → Act → World → Prop} (hd : noDefer o = true) (hn : ∀ a w, next a w → next' a w) (hQ : ∀ c a w, Q (.panic c) a w → Q' (.panic c) a w) (hL : LetsOut Q → LetsOut Q') (h : o.wp P a w next Q) : o.wpIn Fence.wide n P a w next' Q' := by
  refine ⟨fun _ _ => trivial, ?_⟩
  unfold Oper.wp at h
  show o.uponIn Fence.wide n P a next' Q' ((o.semAt none a.eval).run P w)
  rw [Oper.semAt_none]
  revert h
  cases (execOp a.eval o).run P w with
  | ok v w' =>
    cases v with
    | value v => exact hn _ _
    | skip => exact hn _ _
    | defer d => exact hn _ _
    | enter f args =>
      intro h
      refine ⟨fun e => (by cases e), (callsIn_wide (n := n - 1)).2 (Calls.mono h ?_)⟩
      rintro e w2 h2
      cases e with
      | returned v => exact hn _ _ h2
      | panicked c => exact hQ _ _ _ h2
      | outgrown => exact hL h2
    | row row args =>
      intro h
      refine ⟨fun e => (by cases e), ?_⟩
      exact rowsIn_wide (Rows.mono h fun v w2 h2 => hn _ _ h2)
    | _ => exact fun h => h.elim
  | halt s w' =>
    cases s with
    | panic v => exact fun h => hQ _ _ _ h
    | _ => exact fun h => h.elim
def gdB (N : Nat) (o : Oper) : Bool := noDefer o && (match o.guard with | some (j, _) => decide (j < N) | none => true)
theorem wanted_take {l : List Oper} {N : Nat} {o : Oper} {t : Array Value} (h : gdB N o = true) : Region.wanted o (yielded (l.take N).toArray t) = Region.wanted o (yielded l.toArray t) := by
  unfold gdB at h
  cases hg : o.guard with
  | none => simp [Region.wanted, hg]
  | some x =>
    obtain ⟨j, b⟩ := x
    rw [hg] at h
    simp only [Bool.and_eq_true, decide_eq_true_eq] at h
    have e : yielded (l.take N).toArray t j = yielded l.toArray t j := by
      unfold yielded
      have e2 : (l.take N).toArray[j]? = l.toArray[j]? := by
        rw [List.getElem?_toArray, List.getElem?_toArray, List.getElem?_take_of_lt h.2]
      rw [e2]
    simp only [Region.wanted, hg, e]
theorem head_in {n N : Nat} {P : Program} {l l2 : List Oper} {Q : Exit → Act → World → Prop} : ∀ (l1 : List Oper) (a : Act) (w : World), l1.all (gdB N) = true → wpList P (l.take N).toArray (fun e a w => e = .normal ∧ wpListIn Fence.wide n P l.toArray Q l2 a w) l1 a w → wpListIn Fence.wide n P l.toArray Q (l1 ++ l2) a w
  | [], _, _, _, h => h.2
  | o :: rest, a, w, hd, h => by
    simp only [List.all_cons, Bool.and_eq_true] at hd
    unfold wpList at h
    show wpListIn Fence.wide n P l.toArray Q (o :: (rest ++ l2)) a w
    unfold wpListIn
    rw [wanted_take hd.1] at h
    have hnd : noDefer o = true := by have := hd.1; unfold gdB at this; rw [Bool.and_eq_true] at this; exact this.1
    by_cases hw : Region.wanted o (yielded l.toArray a.tmps) = true
    · rw [if_pos hw] at h ⊢
      rcases h with h | ⟨_, h⟩
      · exact oper_wide hnd (fun a w h => head_in rest a w hd.2 h) (fun _ _ _ h => by cases h.1) (fun ⟨_, _, h⟩ => by cases h.1) h
      · obtain ⟨_, _, h⟩ := h; cases h.1
    · rw [if_neg hw] at h ⊢
      exact ⟨fun _ _ => trivial, head_in rest _ w hd.2 h⟩
/-- a region in a fence: the head in the text's order -/
theorem listIn {n id : Nat} {P : Program} {Q : Exit → Act → World → Prop} {l : List Oper} {l0 : List Value} {ds : List Deferred} {w : World} (N : Nat) (hB : (freeB (l.take N).toArray l0.length && decide (N ≤ l.length) && (l.take N).all (gdB N)) = true)
    (h : ChainR N P (l.take N).toArray w ⟨l0.toArray, ds⟩ 0 [] (l.take N) fun acc => ∀ (vs : Nat → Value) (w' : World), Below w.heap.size w w' → Facts acc vs 0 w' → wpListIn Fence.wide n P l.toArray Q (l.drop N) ⟨(fill (l.take N) acc vs 0 l0).toArray, ds⟩ w') :
    (Code.region id l.toArray false).wpIn Fence.wide n P Q ⟨l0.toArray, ds⟩ w := by
  simp only [Bool.and_eq_true, decide_eq_true_eq] at hB
  obtain ⟨⟨h1, h2⟩, h3⟩ := hB
  have hl : (l.take N).length = N := by rw [List.length_take]; omega
  have htt : (l.take N).take N = l.take N := List.take_of_length_le (by omega)
  have hdd : (l.take N).drop N = [] := List.drop_eq_nil_of_le (by omega)
  refine wpIn_region_lit ?_
  have := head_in (n := n) (N := N) (P := P) (l := l) (l2 := l.drop N) (Q := Q) (l.take N) ⟨l0.toArray, ds⟩ w h3 (chainW (l := l.take N) N (by rw [h1]; simp [hl]) (by
    rw [htt]
    refine Chain.fin_mono ?_ _ _ (h rfl)
    intro acc hacc vs w' hb hf
    rw [hdd]
    exact ⟨rfl, hacc vs w' hb hf⟩))
  rwa [List.take_append_drop] at this
end Agg
end
