/-
  RANGE OVER A FUNCTION: an iterator that tells a list, one element behind the other; its caller; what is walked plainly holds in a round, too. Over any program.
-/
import Derived.RangeFuncNested
import Derived.RangeFuncCalls
import Derived.RangeFuncLeaves
import Derived.Below
import Derived.Shelf.Abstract
import Derived.Shelf.RegionOpen
import Derived.OwnWalkIn
import Derived.TacticsInMore
import Derived.LoopNIn
import Derived.LoopIn
import Derived.Test.YtgfmpkcgkjpgnaaAgg
import Derived.Test.YtgfmpkcgkjpgnaaKn
import Derived.Test.YtgfmpkcgkjpgnaaRow
section
namespace Agg
open Go Go.RowKit
/-! what is walked plainly holds in a round -/
theorem rowsIn_wide {n : Nat} {P : Program} {row : String} {args : Array Value} {w : World} {R : Value → World → Prop} (h : Rows P row args w R) : RowsIn Fence.wide n P row args w R := by
  intro c cs _
  obtain ⟨v, w', hr, hs⟩ := h c cs
  exact ⟨v, w', hr, stepsIn_wide.2 hs⟩
def noDefer (o : Oper) : Bool := match o.op with | .defer _ => false | _ => true
theorem noDefer_spec {o : Oper} (h : noDefer o = true) : ∀ c, o.op ≠ .defer c := by
  intro c e
  unfold noDefer at h
  rw [e] at h
  cases h
theorem oper_in {r n : Nat} {P : Program} {o : Oper} {a : Act} {w : World} {next next' : Act → World → Prop} {Q : Exit → Act → World → Prop} (hd : noDefer o = true) (hn : ∀ a w, next a w → next' a w) (h : o.wp P a w next Q) : o.wpIn (Fence.wide.inRound r) n P a w next' Q := by
  refine ⟨fun _ _ => trivial, ?_⟩
  unfold Oper.wp at h
  rw [Fence.inRound_round, Oper.semAt_some r a.eval o (noDefer_spec hd)]
  revert h
  cases (execOp a.eval o).run P w with
  | ok v w' =>
    cases v with
    | value v => exact hn _ _
    | skip => exact hn _ _
    | defer d => exact hn _ _
    | enter f args =>
      intro h
      refine ⟨fun e => (by cases e), CallsIn.inRound r ((callsIn_wide (n := n - 1)).2 (Calls.mono h ?_))⟩
      rintro e w2 h2
      cases e with
      | returned v => exact hn _ _ h2
      | panicked c => exact h2
      | outgrown => exact h2
    | row row args =>
      intro h
      refine ⟨fun e => (by cases e), ?_⟩
      exact rowsIn_wide (Rows.mono h fun v w2 h2 => hn _ _ h2)
    | _ => exact fun h => h.elim
  | halt s w' =>
    cases s with
    | panic v => exact fun h => h
    | _ => exact fun h => h.elim
theorem list_in {r n : Nat} {P : Program} {ops : Array Oper} {Q : Exit → Act → World → Prop} (hno : ¬ LetsOut Q) : ∀ (L : List Oper) (a : Act) (w : World), L.all noDefer = true → wpList P ops Q L a w → wpListIn (Fence.wide.inRound r) n P ops Q L a w
  | [], _, _, _, h => h
  | o :: rest, a, w, hd, h => by
    simp only [List.all_cons, Bool.and_eq_true] at hd
    unfold wpList at h
    unfold wpListIn
    by_cases hw : Region.wanted o (yielded ops a.tmps) = true
    · rw [if_pos hw] at h ⊢
      rcases h with h | ⟨_, h⟩
      · exact oper_in hd.1 (fun a w h => list_in hno rest a w hd.2 h) h
      · exact (hno h).elim
    · rw [if_neg hw] at h ⊢
      exact ⟨fun _ _ => trivial, list_in hno rest _ w hd.2 h⟩
/-- a region that does not draw, in a round -/
theorem region_in {r n id : Nat} {P : Program} {l : List Oper} {Q : Exit → Act → World → Prop} {a : Act} {w : World} (hno : ¬ LetsOut Q) (hd : l.all noDefer = true) (h : wpList P l.toArray Q l a w) : (Code.region id l.toArray false).wpIn (Fence.wide.inRound r) n P Q a w :=
  wpIn_region_lit (list_in hno l a w hd h)
theorem ops_in {r n : Nat} {P : Program} {ops : Array Oper} {Q : Exit → Act → World → Prop} (hno : ¬ LetsOut Q) (hd : ops.all noDefer = true) : ∀ (L : List Nat) (a : Act) (w : World), wpOps P ops Q L a w → wpOpsIn (Fence.wide.inRound r) n P ops Q L a w
  | [], _, _, h => h
  | i :: rest, a, w, h => by
    unfold wpOps at h
    unfold wpOpsIn
    cases ho : ops[i]? with
    | none => simp only [ho] at h ⊢; exact ops_in hno hd rest a w h
    | some o =>
      have hod : noDefer o = true := by
        rw [Array.all_eq_true] at hd
        obtain ⟨hlt, rfl⟩ := Array.getElem?_eq_some_iff.1 ho
        exact hd i hlt
      simp only [ho] at h ⊢
      by_cases hw : Region.wanted o (yielded ops a.tmps) = true
      · rw [if_pos hw] at h ⊢
        rcases h with h | ⟨_, h⟩
        · exact oper_in hod (fun a w h => ops_in hno hd rest a w h) h
        · exact (hno h).elim
      · rw [if_neg hw] at h ⊢
        exact ⟨fun _ _ => trivial, ops_in hno hd rest _ w h⟩
/-! what turns: a block that holds no cells, from B on -/
def Turn (B : Nat) (W W' : World) : Prop := ∃ (l : Nat) (o o' : Obj), W' = W.putObj l o' ∧ B ≤ l ∧ W.heap[l]? = some o ∧ o.isCells = false
theorem Turn.grown {B : Nat} {W W' : World} (h : Turn B W W') : ∃ l, W.grownBy W' (some l) ∧ B ≤ l ∧ ∃ o : Obj, W.heap[l]? = some o ∧ o.isCells = false := by
  obtain ⟨l, o, o', rfl, h1, h2, h3⟩ := h
  exact ⟨l, grownBy_putObj' W l o', h1, o, h2, h3⟩
theorem Turn.below {B n0 : Nat} {w W W' : World} (h : Turn B W W') (hb : Below n0 w W) (hn : n0 ≤ B) : Below n0 w W' := by
  obtain ⟨l, hg, h1, o, ho, _⟩ := h.grown
  have := (Array.getElem?_eq_some_iff.1 ho).1
  exact hb.grown hg (by omega) (fun k e => by cases e; omega)
theorem Turn.blk {B g : Nat} {t : TypeId} {cs : List Value} {W W' : World} (h : Turn B W W') (hb : Blk W g t cs) : Blk W' g t cs := by
  obtain ⟨l, hg, _, o, ho, hc⟩ := h.grown
  refine (hg.block g hb.lt (fun e => ?_)).trans hb
  cases e
  unfold Blk at hb
  rw [hb] at ho
  cases ho
  cases hc
theorem Turn.own {B base sz n : Nat} {e : TypeId} {v : Value} {xs : List Value} {W W' : World} (h : Turn B W W') (hb : W.ownsRow base e sz v n xs) : W'.ownsRow base e sz v n xs := by
  obtain ⟨l, hg, _, o, ho, hc⟩ := h.grown
  refine hb.kept hg ?_
  rcases hb.2 with ⟨rfl, _⟩ | ⟨g, cap, cur, rfl, _, hgb, _⟩
  · exact .inl rfl
  · refine .inr fun e' => ?_
    obtain rfl : g = l := by simpa [Value.ownBlock] using e'
    rw [hgb] at ho
    cases ho
    cases hc
/-! what a round keeps -/
theorem keeps_below {B : Nat} {W W' : World} (h : Below W.heap.size W W') : KeepsFrom B W W' := ⟨h.size, fun k o _ hk _ => by rw [h.block k (Array.getElem?_eq_some_iff.1 hk).1]; exact hk⟩
theorem keeps_blk {B g : Nat} {t : TypeId} {cs : List Value} {W W' : World} (hb : Blk W g t cs) (hg : W.grownBy W' (some g)) : KeepsFrom B W W' := by
  refine ⟨hg.size, fun k o _ hk ho => ?_⟩
  rw [hg.block k (Array.getElem?_eq_some_iff.1 hk).1 (fun e => ?_)]
  · exact hk
  · cases e
    unfold Blk at hb
    rw [hb] at hk
    cases hk
    cases ho
theorem keeps_own {B base sz n : Nat} {e : TypeId} {v : Value} {xs : List Value} {W W' : World} (hb : W.ownsRow base e sz v n xs) (hg : W.grownBy W' v.ownBlock) : KeepsFrom B W W' := by
  refine ⟨hg.size, fun k o _ hk ho => ?_⟩
  rw [hg.block k (Array.getElem?_eq_some_iff.1 hk).1 (fun e' => ?_)]
  · exact hk
  · rcases hb.2 with ⟨rfl, _⟩ | ⟨g, cap, cur, rfl, _, hgb, _⟩
    · simp [Value.ownBlock] at e'
    · obtain rfl : k = g := by simpa [Value.ownBlock] using e'
      rw [hgb] at hk
      cases hk
      cases ho
end Agg
end
section
/-
  RANGE OVER A FUNCTION: the law. An iterator tells a list; it may turn memory of its own. Over any program.
-/
namespace Agg
open Go Go.RowKit
/-- an iterator that tells a list: it does no more to the memory between two rounds than Ab says; of a round that goes on it wants Kp -/
def Iter {α : Type} (P : Program) (g : Nat) (lb : Array Value) (encs : α → Array Value) (Ab Kp : World → World → Prop) (xs : List α) (Ok : World → Prop) : Prop :=
  ∀ (l : Nat) (J Jx : Nat → World → Prop) (W : World), Ok W → (∀ k A B, J k A → Ab A B → J k B) → (∀ k A B, Jx k A → Ab A B → Jx k B) →
    (∀ (k : Nat) (hk : k < xs.length) (W1 : World), J k W1 → YieldAt Fence.wide 1 P l (encs xs[k]) W1 fun e W' =>
      (e = .returned (.bool true) ∧ J (k + 1) W' ∧ Kp W1 W') ∨ (e = .returned (.bool false) ∧ Jx (k + 1) W')) →
    J 0 W → Calls P g (#[.func (.yield l) #[] #[]] ++ lb) W fun e W' => (∃ v, e = .returned v) ∧ (J xs.length W' ∨ ∃ k, k ≤ xs.length ∧ Jx k W')
/-- how a round's body may be left -/
def roundEnd (B : Nat) (Kp : World → World → Prop) (I : Nat → World → Prop) (Ix : Code → Nat → World → Prop) (k : Nat) (W : World) : Exit → Act → World → Prop
  | .normal, _, W' => KeepsFrom B W W' ∧ Kp W W' ∧ I k W'
  | .ret, _, W' => KeepsFrom B W W' ∧ Ix .ret k W'
  | .exit id, _, W' => KeepsFrom B W W' ∧ Ix (.exit id) k W'
  | .goto t, _, W' => KeepsFrom B W W' ∧ Ix (.goto t) k W'
  | .panic _, _, _ => False
  | .outgrown, _, _ => False
theorem roundEnd_no {B : Nat} {Kp : World → World → Prop} {I : Nat → World → Prop} {Ix : Code → Nat → World → Prop} {k : Nat} {W : World} : ¬ LetsOut (roundEnd B Kp I Ix k W) := fun ⟨_, _, h⟩ => h
theorem then_no {K : Act → World → Prop} {Q : Exit → Act → World → Prop} (h : ¬ LetsOut Q) : ¬ LetsOut (Exit.then K Q) := fun ⟨a, w, h2⟩ => h ⟨a, w, h2⟩
theorem block_no {id : Nat} {Q : Exit → Act → World → Prop} (h : ¬ LetsOut Q) : ¬ LetsOut (Exit.inBlock id Q) := fun ⟨a, w, h2⟩ => h ⟨a, w, h2⟩
theorem false_no {K : Act → World → Prop} : ¬ LetsOut (Exit.then K (fun _ _ _ => False)) := fun ⟨_, _, h⟩ => h
theorem range_iter {α : Type} {P : Program} {g : Operand} {ps : Array Tmp} {assign body : Code} {Q : Exit → Act → World → Prop} {a : Act} {w : World} {gf : Nat} {lb : Array Value} (hg : a.eval g = .func (.func gf) #[] lb)
    (eg : ∀ args w, (callFunc gf args).run P w = .ok (.enter gf args) w) {encs : α → Array Value} {Ab Kp : World → World → Prop} {xs : List α} {Ok : World → Prop} (hit : Iter P gf lb encs Ab Kp xs Ok)
    (hok : ∀ W, Below w.heap.size w W → Ok W) (hAb : ∀ A B, Ab A B → ∃ row, A.grownBy B row ∧ ∀ r, row = some r → r < w.heap.size)
    (hKt : ∀ A B C, Kp A B → Kp B C → Kp A C) (hKb : ∀ A B, Turn w.heap.size A B → Kp A B) (hps : ∀ x, (encs x).size = ps.size)
    (I : Nat → World → Prop) (Ix : Code → Nat → World → Prop) (hI : ∀ k A B, I k A → Turn w.heap.size A B → I k B) (hIx : ∀ c k A B, Ix c k A → Turn w.heap.size A B → Ix c k B)
    (hIA : ∀ k A B, I k A → Ab A B → I k B) (hIxA : ∀ c k A B, Ix c k A → Ab A B → Ix c k B) (h0 : ∀ W, Below w.heap.size w W → I 0 W)
    (hround : ∀ (l k : Nat) (hk : k < xs.length) (W : World), w.heap.size ≤ W.heap.size → I k W → assign.wpIn (Fence.wide.inRound l) 1 P
      (Exit.then (fun a₁ W₁ => KeepsFrom w.heap.size W W₁ ∧ Kp W W₁ ∧ ∀ W₂, Turn w.heap.size W₁ W₂ → body.wpIn (Fence.wide.inRound l) 1 P (roundEnd w.heap.size Kp I Ix (k + 1) W₂) a₁ W₂) (fun _ _ _ => False))
      { tmps := (ps.zip (encs xs[k])).foldl (fun t (p, v) => t.setIfInBounds p v) a.tmps, defers := [] } W)
    (hdone : ∀ (D : Nat) (W : World), w.heap.size ≤ D → I xs.length W → W.heap[D]? = some (.deferred (some [])) → Q .normal { a with defers := { target := .collected D, args := #[] } :: a.defers } W)
    (hstop : ∀ (D : Nat) (c : Code) (k : Nat) (W : World), w.heap.size ≤ D → k ≤ xs.length → Ix c k W → W.heap[D]? = some (.deferred (some [])) → c.wp P Q { a with defers := { target := .collected D, args := #[] } :: a.defers } W) :
    (Code.rangeFunc g ps assign body).wp P Q a w := by
  refine (wpIn_wide (n := 3)).1 (wpIn_rangeFunc ?_)
  intro fn hfn
  obtain ⟨rec, hrec⟩ : ∃ rec : LoopState → Option Code → Loop, rec = fun st pe => { state := st, pending := pe, fn, tmps := a.tmps, params := ps, assign, body, defers := w.heap.size } := ⟨_, rfl⟩
  obtain ⟨W1, hW1⟩ : ∃ W1, (w.alloc (.deferred (some []))).alloc (.loop (rec .ready none)) = W1 := ⟨_, rfl⟩
  have hL1 : W1.heap[w.heap.size + 1]? = some (.loop (rec .ready none)) := by
    rw [← hW1]; have := World.alloc_heap_new (w.alloc (.deferred (some []))) (.loop (rec .ready none)); rwa [World.size_alloc] at this
  have hK1 : W1.heap[w.heap.size]? = some (.deferred (some [])) := by
    rw [← hW1]; exact (Below.heap_alloc _ _ _ (by simp)).trans (World.alloc_heap_new w _)
  have hb1 : Below w.heap.size w W1 := by
    rw [← hW1]; exact ((Below.refl _ w).alloc (Nat.le_refl _) _).alloc (by simp) _
  have put : ∀ {W : World} {l : Nat} {o : Obj} (o' : Obj), w.heap.size ≤ l → W.heap[l]? = some o → o.isCells = false → Turn w.heap.size W (W.putObj l o') := fun o' h1 h2 h3 => ⟨_, _, o', rfl, h1, h2, h3⟩
  refine ⟨w.heap.size + 1, [{ target := .collected w.heap.size, args := #[] }], W1, { target := .fn (.func gf) lb, args := #[.func (.yield (w.heap.size + 1)) #[] #[]] }, W1, gf,
    #[.func (.yield (w.heap.size + 1)) #[] #[]] ++ lb, W1, ?_, ?_, fun _ _ => trivial, ?_, fun e => (by cases e), ?_⟩
  · rw [← hW1, hrec]; exact run_enterLoop_outer _ _ _ _ _
  · simp only [resolve, hg]
    simp [go_sem]
  · simp [invoke, go_sem, eg]
  · have keep : ∀ {A B : World} {l : Nat} {o : Obj}, Ab A B → w.heap.size ≤ l → A.heap[l]? = some o → B.heap[l]? = some o := fun {A B l o} hab hl ho => by
      obtain ⟨row, hgr, hlt⟩ := hAb A B hab
      rw [hgr.block l (Array.getElem?_eq_some_iff.1 ho).1 (fun e => by have := hlt l e.symm; omega)]
      exact ho
    refine (callsIn_wide (n := 3 - 1)).2 (Calls.mono (hit (w.heap.size + 1)
      (fun k W => (I k W ∧ w.heap.size ≤ W.heap.size) ∧ W.heap[w.heap.size + 1]? = some (.loop (rec .ready none)) ∧ W.heap[w.heap.size]? = some (.deferred (some [])))
      (fun k W => ∃ c, Ix c k W ∧ W.heap[w.heap.size + 1]? = some (.loop (rec .done (some c))) ∧ W.heap[w.heap.size]? = some (.deferred (some [])))
      W1 (hok W1 hb1)
      (fun k A B hs hab => ⟨⟨hIA k A B hs.1.1 hab, by obtain ⟨row, hgr, _⟩ := hAb A B hab; exact Nat.le_trans hs.1.2 hgr.size⟩, keep hab (by omega) hs.2.1, keep hab (Nat.le_refl _) hs.2.2⟩)
      (fun k A B hs hab => by
        obtain ⟨c, hc, hl, hk⟩ := hs
        exact ⟨c, hIxA c k A B hc hab, keep hab (by omega) hl, keep hab (Nat.le_refl _) hk⟩)
      ?_ ⟨⟨h0 W1 hb1, hb1.size⟩, hL1, hK1⟩) ?_)
    · rintro k hlen W ⟨⟨hi, hsz⟩, hl, hk⟩
      have hlt : w.heap.size + 1 < W.heap.size := (Array.getElem?_eq_some_iff.1 hl).1
      have hy := run_yield (P := P) (args := encs xs[k]) hl (by rw [hrec]; exact hps _)
      rw [hrec] at hy
      refine ⟨fn, _, assign, body, hy, roundIn_of_wpIn hfn (wpIn_mono (hround (w.heap.size + 1) k hlen W hsz hi) ?_)⟩
      clear hy
      rintro e a' Wa hA
      cases e with
      | normal =>
        obtain ⟨hkfa, hkpa, hax⟩ := hA
        replace hl := hkfa.same _ _ (by omega) hl rfl
        replace hk := hkfa.same _ _ (Nat.le_refl _) hk rfl
        replace hlt : w.heap.size + 1 < Wa.heap.size := (Array.getElem?_eq_some_iff.1 hl).1
        refine ⟨_, run_beginRound hl (by rw [hrec]), ?_⟩
        have hl2 : (Wa.putObj (w.heap.size + 1) (.loop { rec .ready none with state := .busy })).heap[w.heap.size + 1]? = some (.loop { rec .ready none with state := .busy }) := World.putObj_heap_same hlt
        have hk2 : (Wa.putObj (w.heap.size + 1) (.loop { rec .ready none with state := .busy })).heap[w.heap.size]? = some (.deferred (some [])) := (World.putObj_heap_other (by omega)).trans hk
        have hT : Turn w.heap.size Wa (Wa.putObj (w.heap.size + 1) (.loop { rec .ready none with state := .busy })) := put _ (by omega) hl rfl
        refine wpIn_mono (hax _ hT) ?_
        have fin : ∀ (jump : Option Code) (W3 : World), KeepsFrom w.heap.size (Wa.putObj (w.heap.size + 1) (.loop { rec .ready none with state := .busy })) W3 →
            (Instr.endRound (w.heap.size + 1) jump).run P W3 = .ok (.bool jump.isNone) (W3.putObj (w.heap.size + 1) (.loop (rec (if jump.isNone then .ready else .done) jump))) ∧
            W3.heap[w.heap.size + 1]? = some (.loop { rec .ready none with state := .busy }) ∧
            (W3.putObj (w.heap.size + 1) (.loop (rec (if jump.isNone then .ready else .done) jump))).heap[w.heap.size + 1]? = some (.loop (rec (if jump.isNone then .ready else .done) jump)) ∧
            (W3.putObj (w.heap.size + 1) (.loop (rec (if jump.isNone then .ready else .done) jump))).heap[w.heap.size]? = some (.deferred (some [])) := fun jump W3 hk3 => by
          have hl3 := hk3.same _ _ (by omega) hl2 rfl
          have := run_endRound (P := P) jump hl3
          rw [hrec] at this ⊢
          exact ⟨this, by rw [hrec] at hl3; exact hl3, World.putObj_heap_same (Array.getElem?_eq_some_iff.1 hl3).1, (World.putObj_heap_other (by omega)).trans (hk3.same _ _ (Nat.le_refl _) hk2 rfl)⟩
        rintro e a3 W3 hp
        cases e with
        | normal =>
          obtain ⟨hk3, hkp3, hi3⟩ := hp
          obtain ⟨hr, hl3, hl4, hk4⟩ := fin none W3 hk3
          have hT3 : Turn w.heap.size W3 _ := put (.loop (rec .ready none)) (by omega) hl3 rfl
          exact ⟨_, _, hr, .inl ⟨rfl, ⟨⟨hI _ _ _ hi3 hT3, by rw [World.putObj_size]; have := hk3.size; rw [World.putObj_size] at this; omega⟩, hl4, hk4⟩, hKt _ _ _ hkpa (hKt _ _ _ (hKt _ _ _ (hKb _ _ hT) hkp3) (hKb _ _ hT3))⟩⟩
        | ret =>
          obtain ⟨hk3, hi3⟩ := hp
          obtain ⟨hr, hl3, hl4, hk4⟩ := fin (some .ret) W3 hk3
          exact ⟨_, _, hr, .inr ⟨rfl, .ret, hIx _ _ _ _ hi3 (put _ (by omega) hl3 rfl), hl4, hk4⟩⟩
        | exit id =>
          obtain ⟨hk3, hi3⟩ := hp
          obtain ⟨hr, hl3, hl4, hk4⟩ := fin (some (.exit id)) W3 hk3
          exact ⟨_, _, hr, .inr ⟨rfl, .exit id, hIx _ _ _ _ hi3 (put _ (by omega) hl3 rfl), hl4, hk4⟩⟩
        | goto t =>
          obtain ⟨hk3, hi3⟩ := hp
          obtain ⟨hr, hl3, hl4, hk4⟩ := fin (some (.goto t)) W3 hk3
          exact ⟨_, _, hr, .inr ⟨rfl, .goto t, hIx _ _ _ _ hi3 (put _ (by omega) hl3 rfl), hl4, hk4⟩⟩
        | panic ch => exact hp.elim
        | outgrown => exact hp.elim
      | _ => exact hA.elim
    · rintro e W2 ⟨⟨v, rfl⟩, (⟨⟨hi, _⟩, hl, hk⟩ | ⟨k, hk2, c, hi, hl, hk⟩)⟩
      · exact ⟨none, _, by have := run_endLoop (P := P) hl (by rw [hrec]; simp); rw [hrec] at this; exact this, hdone _ _ (Nat.le_refl _) (hI _ _ _ hi (put _ (by omega) hl rfl)) ((World.putObj_heap_other (by omega)).trans hk)⟩
      · exact ⟨some c, _, by have := run_endLoop (P := P) hl (by rw [hrec]; simp); rw [hrec] at this; exact this, wpIn_wide.2 (hstop _ c k _ (Nat.le_refl _) hk2 (hIx _ _ _ _ hi (put _ (by omega) hl rfl)) ((World.putObj_heap_other (by omega)).trans hk))⟩
/-! a function that holds such a loop -/
theorem calls_of_marks {P : Program} {f : FuncId} {fn : Func} {c : Code} {args : Array Value} {w : World} {R : Ending → World → Prop} (hf : P.funcs[f]? = some fn) (hb : fn.body = some c)
    (h : c.wp P (bodyPostM Fence.wide 3 P fn R) { tmps := args ++ Array.replicate (fn.ntmps - args.size) undef, defers := [] } w) : Calls P f args w R :=
  (callsIn_wide (n := 3)).1 (callsIn_of_wp_marks hf hb trivial (wpIn_wide.2 h))
/-- it returns ahead of the loop -/
theorem marks_ret0 {P : Program} {fn : Func} {R : Ending → World → Prop} {tmps : Array Value} {w : World} {v : Value} (hr : (results fn tmps).run P w = .ok v w) (h : R (.returned v) w) : bodyPostM Fence.wide 3 P fn R .ret ⟨tmps, []⟩ w := ⟨v, hr, h⟩
/-- it returns behind the loop: the block of the rounds' deferred calls is shut -/
theorem marks_ret1 {P : Program} {fn : Func} {R : Ending → World → Prop} {tmps : Array Value} {w : World} {D : Nat} {v : Value} (hD : w.heap[D]? = some (.deferred (some []))) (hr : (results fn tmps).run P (w.putObj D (.deferred none)) = .ok v (w.putObj D (.deferred none))) (h : R (.returned v) (w.putObj D (.deferred none))) :
    bodyPostM Fence.wide 3 P fn R .ret ⟨tmps, [{ target := .collected D, args := #[] }]⟩ w :=
  ⟨by simp, .inl ⟨D, _, rfl, run_takeDeferred hD, v, hr, h⟩⟩
theorem shut_turn {B D : Nat} {w : World} (hD : w.heap[D]? = some (.deferred (some []))) (hB : B ≤ D) : Turn B w (w.putObj D (.deferred none)) := ⟨D, _, _, rfl, hB, hD, rfl⟩
end Agg
end
section
/-
  RANGE OVER A FUNCTION: operations in a fence. Over any program.
-/
namespace Agg
open Go Go.RowKit
section
variable {n : Nat} {P : Program} {ops : Array Oper} {Q : Exit → Act → World → Prop} {a : Act} {w : World} {rest : List Oper} {o : Oper}
theorem runIn (v : Value) (w' : World) (hw : Region.wanted o (yielded ops a.tmps) = true) (hr : (execOp a.eval o).run P w = .ok (.value v) w') (h : wpListIn Fence.wide n P ops Q rest (a.put o.dst v) w') : wpListIn Fence.wide n P ops Q (o :: rest) a w := by
  unfold wpListIn
  rw [if_pos hw]
  refine ⟨fun _ _ => trivial, ?_⟩
  show o.uponIn Fence.wide n P a _ Q ((execOp a.eval o).run P w)
  rw [hr]
  exact h
theorem gLoadIn {t : TypeId} {y : Operand} {b f : Nat} (m : Nat) (cs : List Value) (hw : Region.wanted o (yielded ops a.tmps) = true) (ho : o.op = .load t y) (hy : a.eval y = .pointer (some ⟨b, f, none⟩)) (ht : aggT P t m = true) (hl : cs.length = m)
    (hc : ∀ i v, cs[i]? = some v → w.cell? ⟨b, f + i, none⟩ = some v) (h : wpListIn Fence.wide n P ops Q rest (a.put o.dst (.agg cs.toArray)) w) : wpListIn Fence.wide n P ops Q (o :: rest) a w := by
  subst hl
  simp only [aggT, Bool.and_eq_true, beq_iff_eq] at ht
  obtain ⟨e1, e2⟩ := ht
  cases hu : P.underlying t with
  | none => simp [hu] at e1
  | some d =>
    refine runIn _ w hw ?_ h
    simp only [execOp, ho, hy, Sem.run_bind]
    rw [run_load_at t d cs ⟨b, f, none⟩ w hu (by cases d <;> simp [hu] at e1 <;> rfl) e2 (fun i v hi => by rw [add_none]; exact hc i v hi)]
    rfl
end
end Agg
end
