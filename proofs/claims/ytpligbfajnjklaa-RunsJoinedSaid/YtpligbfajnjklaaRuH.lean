/-
  RANGE OVER A FUNCTION: the law. An iterator tells a list; it may turn memory of its own. Over any program.
-/
import Derived.Shelf.Abstract
import Derived.Shelf.RegionOpen
import Derived.OwnWalkIn
import Derived.TacticsInMore
import Derived.LoopNIn
import Derived.LoopIn
import Derived.Test.YtpligbfajnjklaaIter
import Derived.Test.YtpligbfajnjklaaRow
import Derived.Test.YtpligbfajnjklaaOwn
section
namespace Agg
open Go Go.RowKit
/-- an iterator that tells a list: it does no more to the memory between two rounds than Ab says; of a round that goes on it wants Kp -/
def Iter {α : Type} (P : Program) (g : Nat) (lb : Array Value) (encs : α → Array Value) (Ab Kp : World → World → Prop) (xs : List α) (Ok : World → Prop) : Prop :=
  ∀ (l : Nat) (J Jx : Nat → World → Prop) (W : World), Ok W → (∀ k A B, J k A → Ab A B → J k B) → (∀ k A B, Jx k A → Ab A B → Jx k B) →
    (∀ (k : Nat) (hk : k < xs.length) (W1 : World), J k W1 → YieldAt Fence.wide 1 P l (encs xs[k]) W1 fun e W' =>
      (e = .returned (.bool true) ∧ J (k + 1) W' ∧ Kp W1 W') ∨ (e = .returned (.bool false) ∧ Jx (k + 1) W')) →
    J 0 W → Calls P g (#[.func (.yield l) #[] #[]] ++ lb) W fun e W' => (∃ v, e = .returned v) ∧ (J xs.length W' ∨ ∃ k, k ≤ xs.length ∧ Jx k W')
/-- how a round's body may be left -/
def roundEnd (B : Nat) (Kp : World → World → Prop) (I : Nat → World → Prop) (Ix : Code → Nat → World → Prop) (k : Nat) (W : World) : Exit → Act → World → Prop
  | .normal, _, W' => KeepsFrom B W W' ∧ Kp W W' ∧ I k W'
  | .ret, _, W' => KeepsFrom B W W' ∧ Ix .ret k W'
  | .exit id, _, W' => KeepsFrom B W W' ∧ Ix (.exit id) k W'
  | .goto t, _, W' => KeepsFrom B W W' ∧ Ix (.goto t) k W'
  | .panic _, _, _ => False
  | .outgrown, _, _ => False
theorem roundEnd_no {B : Nat} {Kp : World → World → Prop} {I : Nat → World → Prop} {Ix : Code → Nat → World → Prop} {k : Nat} {W : World} : ¬ LetsOut (roundEnd B Kp I Ix k W) := fun ⟨_, _, h⟩ => h
theorem then_no {K : Act → World → Prop} {Q : Exit → Act → World → Prop} (h : ¬ LetsOut Q) : ¬ LetsOut (Exit.then K Q) := fun ⟨a, w, h2⟩ => h ⟨a, w, h2⟩
theorem block_no {id : Nat} {Q : Exit → Act → World → Prop} (h : ¬ LetsOut Q) : ¬ LetsOut (Exit.inBlock id Q) := fun ⟨a, w, h2⟩ => h ⟨a, w, h2⟩
theorem false_no {K : Act → World → Prop} : ¬ LetsOut (Exit.then K (fun _ _ _ => False)) := fun ⟨_, _, h⟩ => h
theorem range_iter {α : Type} {P : Program} {g : Operand} {ps : Array Tmp} {assign body : Code} {Q : Exit → Act → World → Prop} {a : Act} {w : World} {gf : Nat} {lb : Array Value} (hg : a.eval g = .func (.func gf) #[] lb)
    (eg : ∀ args w, (callFunc gf args).run P w = .ok (.enter gf args) w) {encs : α → Array Value} {Ab Kp : World → World → Prop} {xs : List α} {Ok : World → Prop} (hit : Iter P gf lb encs Ab Kp xs Ok)
    (hok : ∀ W, Below w.heap.size w W → Ok W) (hAb : ∀ A B, Ab A B → ∃ row, A.grownBy B row ∧ ∀ r, row = some r → r < w.heap.size)
    (hKt : ∀ A B C, Kp A B → Kp B C → Kp A C) (hKb : ∀ A B, Turn w.heap.size A B → Kp A B) (hps : ∀ x, (encs x).size = ps.size)
    (I : Nat → World → Prop) (Ix : Code → Nat → World → Prop) (hI : ∀ k A B, I k A → Turn w.heap.size A B → I k B) (hIx : ∀ c k A B, Ix c k A → Turn w.heap.size A B → Ix c k B)
    (hIA : ∀ k A B, I k A → Ab A B → I k B) (hIxA : ∀ c k A B, Ix c k A → Ab A B → Ix c k B) (h0 : ∀ W, Below w.heap.size w W → I 0 W)
    (hround : ∀ (l k : Nat) (hk : k < xs.length) (W : World), w.heap.size ≤ W.heap.size → I k W → assign.wpIn (Fence.wide.inRound l) 1 P
      (Exit.then (fun a₁ W₁ => KeepsFrom w.heap.size W W₁ ∧ Kp W W₁ ∧ ∀ W₂, Turn w.heap.size W₁ W₂ → body.wpIn (Fence.wide.inRound l) 1 P (roundEnd w.heap.size Kp I Ix (k + 1) W₂) a₁ W₂) (fun _ _ _ => False))
      { tmps := (ps.zip (encs xs[k])).foldl (fun t (p, v) => t.setIfInBounds p v) a.tmps, defers := [] } W)
    (hdone : ∀ (D : Nat) (W : World), w.heap.size ≤ D → I xs.length W → W.heap[D]? = some (.deferred (some [])) → Q .normal { a with defers := { target := .collected D, args := #[] } :: a.defers } W)
    (hstop : ∀ (D : Nat) (c : Code) (k : Nat) (W : World), w.heap.size ≤ D → k ≤ xs.length → Ix c k W → W.heap[D]? = some (.deferred (some [])) → c.wp P Q { a with defers := { target := .collected D, args := #[] } :: a.defers } W) :
    (Code.rangeFunc g ps assign body).wp P Q a w := by
  refine (wpIn_wide (n := 3)).1 (wpIn_rangeFunc ?_)
  intro fn hfn
  obtain ⟨rec, hrec⟩ : ∃ rec : LoopState → Option Code → Loop, rec = fun st pe => { state := st, pending := pe, fn, tmps := a.tmps, params := ps, assign, body, defers := w.heap.size } := ⟨_, rfl⟩
  obtain ⟨W1, hW1⟩ : ∃ W1, (w.alloc (.deferred (some []))).alloc (.loop (rec .ready none)) = W1 := ⟨_, rfl⟩
  have hL1 : W1.heap[w.heap.size + 1]? = some (.loop (rec .ready none)) := by
    rw [← hW1]; have := World.alloc_heap_new (w.alloc (.deferred (some []))) (.loop (rec .ready none)); rwa [World.size_alloc] at this
  have hK1 : W1.heap[w.heap.size]? = some (.deferred (some [])) := by
    rw [← hW1]; exact (Below.heap_alloc _ _ _ (by simp)).trans (World.alloc_heap_new w _)
  have hb1 : Below w.heap.size w W1 := by
    rw [← hW1]; exact ((Below.refl _ w).alloc (Nat.le_refl _) _).alloc (by simp) _
  have put : ∀ {W : World} {l : Nat} {o : Obj} (o' : Obj), w.heap.size ≤ l → W.heap[l]? = some o → o.isCells = false → Turn w.heap.size W (W.putObj l o') := fun o' h1 h2 h3 => ⟨_, _, o', rfl, h1, h2, h3⟩
  refine ⟨w.heap.size + 1, [{ target := .collected w.heap.size, args := #[] }], W1, { target := .fn (.func gf) lb, args := #[.func (.yield (w.heap.size + 1)) #[] #[]] }, W1, gf,
    #[.func (.yield (w.heap.size + 1)) #[] #[]] ++ lb, W1, ?_, ?_, fun _ _ => trivial, ?_, fun e => (by cases e), ?_⟩
  · rw [← hW1, hrec]; exact run_enterLoop_outer _ _ _ _ _
  · simp only [resolve, hg]
    simp [go_sem]
  · simp [invoke, go_sem, eg]
  · have keep : ∀ {A B : World} {l : Nat} {o : Obj}, Ab A B → w.heap.size ≤ l → A.heap[l]? = some o → B.heap[l]? = some o := fun {A B l o} hab hl ho => by
      obtain ⟨row, hgr, hlt⟩ := hAb A B hab
      rw [hgr.block l (Array.getElem?_eq_some_iff.1 ho).1 (fun e => by have := hlt l e.symm; omega)]
      exact ho
    refine (callsIn_wide (n := 3 - 1)).2 (Calls.mono (hit (w.heap.size + 1)
      (fun k W => (I k W ∧ w.heap.size ≤ W.heap.size) ∧ W.heap[w.heap.size + 1]? = some (.loop (rec .ready none)) ∧ W.heap[w.heap.size]? = some (.deferred (some [])))
      (fun k W => ∃ c, Ix c k W ∧ W.heap[w.heap.size + 1]? = some (.loop (rec .done (some c))) ∧ W.heap[w.heap.size]? = some (.deferred (some [])))
      W1 (hok W1 hb1)
      (fun k A B hs hab => ⟨⟨hIA k A B hs.1.1 hab, by obtain ⟨row, hgr, _⟩ := hAb A B hab; exact Nat.le_trans hs.1.2 hgr.size⟩, keep hab (by omega) hs.2.1, keep hab (Nat.le_refl _) hs.2.2⟩)
      (fun k A B hs hab => by
        obtain ⟨c, hc, hl, hk⟩ := hs
        exact ⟨c, hIxA c k A B hc hab, keep hab (by omega) hl, keep hab (Nat.le_refl _) hk⟩)
      ?_ ⟨⟨h0 W1 hb1, hb1.size⟩, hL1, hK1⟩) ?_)
    · rintro k hlen W ⟨⟨hi, hsz⟩, hl, hk⟩
      have hlt : w.heap.size + 1 < W.heap.size := (Array.getElem?_eq_some_iff.1 hl).1
      have hy := run_yield (P := P) (args := encs xs[k]) hl (by rw [hrec]; exact hps _)
      rw [hrec] at hy
      refine ⟨fn, _, assign, body, hy, roundIn_of_wpIn hfn (wpIn_mono (hround (w.heap.size + 1) k hlen W hsz hi) ?_)⟩
      clear hy
      rintro e a' Wa hA
      cases e with
      | normal =>
        obtain ⟨hkfa, hkpa, hax⟩ := hA
        replace hl := hkfa.same _ _ (by omega) hl rfl
        replace hk := hkfa.same _ _ (Nat.le_refl _) hk rfl
        replace hlt : w.heap.size + 1 < Wa.heap.size := (Array.getElem?_eq_some_iff.1 hl).1
        refine ⟨_, run_beginRound hl (by rw [hrec]), ?_⟩
        have hl2 : (Wa.putObj (w.heap.size + 1) (.loop { rec .ready none with state := .busy })).heap[w.heap.size + 1]? = some (.loop { rec .ready none with state := .busy }) := World.putObj_heap_same hlt
        have hk2 : (Wa.putObj (w.heap.size + 1) (.loop { rec .ready none with state := .busy })).heap[w.heap.size]? = some (.deferred (some [])) := (World.putObj_heap_other (by omega)).trans hk
        have hT : Turn w.heap.size Wa (Wa.putObj (w.heap.size + 1) (.loop { rec .ready none with state := .busy })) := put _ (by omega) hl rfl
        refine wpIn_mono (hax _ hT) ?_
        have fin : ∀ (jump : Option Code) (W3 : World), KeepsFrom w.heap.size (Wa.putObj (w.heap.size + 1) (.loop { rec .ready none with state := .busy })) W3 →
            (Instr.endRound (w.heap.size + 1) jump).run P W3 = .ok (.bool jump.isNone) (W3.putObj (w.heap.size + 1) (.loop (rec (if jump.isNone then .ready else .done) jump))) ∧
            W3.heap[w.heap.size + 1]? = some (.loop { rec .ready none with state := .busy }) ∧
            (W3.putObj (w.heap.size + 1) (.loop (rec (if jump.isNone then .ready else .done) jump))).heap[w.heap.size + 1]? = some (.loop (rec (if jump.isNone then .ready else .done) jump)) ∧
            (W3.putObj (w.heap.size + 1) (.loop (rec (if jump.isNone then .ready else .done) jump))).heap[w.heap.size]? = some (.deferred (some [])) := fun jump W3 hk3 => by
          have hl3 := hk3.same _ _ (by omega) hl2 rfl
          have := run_endRound (P := P) jump hl3
          rw [hrec] at this ⊢
          exact ⟨this, by rw [hrec] at hl3; exact hl3, World.putObj_heap_same (Array.getElem?_eq_some_iff.1 hl3).1, (World.putObj_heap_other (by omega)).trans (hk3.same _ _ (Nat.le_refl _) hk2 rfl)⟩
        rintro e a3 W3 hp
        cases e with
        | normal =>
          obtain ⟨hk3, hkp3, hi3⟩ := hp
          obtain ⟨hr, hl3, hl4, hk4⟩ := fin none W3 hk3
          have hT3 : Turn w.heap.size W3 _ := put (.loop (rec .ready none)) (by omega) hl3 rfl
          exact ⟨_, _, hr, .inl ⟨rfl, ⟨⟨hI _ _ _ hi3 hT3, by rw [World.putObj_size]; have := hk3.size; rw [World.putObj_size] at this; omega⟩, hl4, hk4⟩, hKt _ _ _ hkpa (hKt _ _ _ (hKt _ _ _ (hKb _ _ hT) hkp3) (hKb _ _ hT3))⟩⟩
        | ret =>
          obtain ⟨hk3, hi3⟩ := hp
          obtain ⟨hr, hl3, hl4, hk4⟩ := fin (some .ret) W3 hk3
          exact ⟨_, _, hr, .inr ⟨rfl, .ret, hIx _ _ _ _ hi3 (put _ (by omega) hl3 rfl), hl4, hk4⟩⟩
        | exit id =>
          obtain ⟨hk3, hi3⟩ := hp
          obtain ⟨hr, hl3, hl4, hk4⟩ := fin (some (.exit id)) W3 hk3
          exact ⟨_, _, hr, .inr ⟨rfl, .exit id, hIx _ _ _ _ hi3 (put _ (by omega) hl3 rfl), hl4, hk4⟩⟩
        | goto t =>
          obtain ⟨hk3, hi3⟩ := hp
          obtain ⟨hr, hl3, hl4, hk4⟩ := fin (some (.goto t)) W3 hk3
          exact ⟨_, _, hr, .inr ⟨rfl, .goto t, hIx _ _ _ _ hi3 (put _ (by omega) hl3 rfl), hl4, hk4⟩⟩
        | panic ch => exact hp.elim
        | outgrown => exact hp.elim
      | _ => exact hA.elim
    · rintro e W2 ⟨⟨v, rfl⟩, (⟨⟨hi, _⟩, hl, hk⟩ | ⟨k, hk2, c, hi, hl, hk⟩)⟩
      · exact ⟨none, _, by have := run_endLoop (P := P) hl (by rw [hrec]; simp); rw [hrec] at this; exact this, hdone _ _ (Nat.le_refl _) (hI _ _ _ hi (put _ (by omega) hl rfl)) ((World.putObj_heap_other (by omega)).trans hk)⟩
      · exact ⟨some c, _, by have := run_endLoop (P := P) hl (by rw [hrec]; simp); rw [hrec] at this; exact this, wpIn_wide.2 (hstop _ c k _ (Nat.le_refl _) hk2 (hIx _ _ _ _ hi (put _ (by omega) hl rfl)) ((World.putObj_heap_other (by omega)).trans hk))⟩
/-! a function that holds such a loop -/
theorem calls_of_marks {P : Program} {f : FuncId} {fn : Func} {c : Code} {args : Array Value} {w : World} {R : Ending → World → Prop} (hf : P.funcs[f]? = some fn) (hb : fn.body = some c)
    (h : c.wp P (bodyPostM Fence.wide 3 P fn R) { tmps := args ++ Array.replicate (fn.ntmps - args.size) undef, defers := [] } w) : Calls P f args w R :=
  (callsIn_wide (n := 3)).1 (callsIn_of_wp_marks hf hb trivial (wpIn_wide.2 h))
/-- it returns ahead of the loop -/
theorem marks_ret0 {P : Program} {fn : Func} {R : Ending → World → Prop} {tmps : Array Value} {w : World} {v : Value} (hr : (results fn tmps).run P w = .ok v w) (h : R (.returned v) w) : bodyPostM Fence.wide 3 P fn R .ret ⟨tmps, []⟩ w := ⟨v, hr, h⟩
/-- it returns behind the loop: the block of the rounds' deferred calls is shut -/
theorem marks_ret1 {P : Program} {fn : Func} {R : Ending → World → Prop} {tmps : Array Value} {w : World} {D : Nat} {v : Value} (hD : w.heap[D]? = some (.deferred (some []))) (hr : (results fn tmps).run P (w.putObj D (.deferred none)) = .ok v (w.putObj D (.deferred none))) (h : R (.returned v) (w.putObj D (.deferred none))) :
    bodyPostM Fence.wide 3 P fn R .ret ⟨tmps, [{ target := .collected D, args := #[] }]⟩ w :=
  ⟨by simp, .inl ⟨D, _, rfl, run_takeDeferred hD, v, hr, h⟩⟩
theorem shut_turn {B D : Nat} {w : World} (hD : w.heap[D]? = some (.deferred (some []))) (hB : B ≤ D) : Turn B w (w.putObj D (.deferred none)) := ⟨D, _, _, rfl, hB, hD, rfl⟩
end Agg
end
section
/-
  RANGE OVER A FUNCTION: operations in a fence. Over any program.
-/
namespace Agg
open Go Go.RowKit
section
variable {n : Nat} {P : Program} {ops : Array Oper} {Q : Exit → Act → World → Prop} {a : Act} {w : World} {rest : List Oper} {o : Oper}
theorem runIn (v : Value) (w' : World) (hw : Region.wanted o (yielded ops a.tmps) = true) (hr : (execOp a.eval o).run P w = .ok (.value v) w') (h : wpListIn Fence.wide n P ops Q rest (a.put o.dst v) w') : wpListIn Fence.wide n P ops Q (o :: rest) a w := by
  unfold wpListIn
  rw [if_pos hw]
  refine ⟨fun _ _ => trivial, ?_⟩
  show o.uponIn Fence.wide n P a _ Q ((execOp a.eval o).run P w)
  rw [hr]
  exact h
theorem gLoadIn {t : TypeId} {y : Operand} {b f : Nat} (m : Nat) (cs : List Value) (hw : Region.wanted o (yielded ops a.tmps) = true) (ho : o.op = .load t y) (hy : a.eval y = .pointer (some ⟨b, f, none⟩)) (ht : aggT P t m = true) (hl : cs.length = m)
    (hc : ∀ i v, cs[i]? = some v → w.cell? ⟨b, f + i, none⟩ = some v) (h : wpListIn Fence.wide n P ops Q rest (a.put o.dst (.agg cs.toArray)) w) : wpListIn Fence.wide n P ops Q (o :: rest) a w := by
  subst hl
  simp only [aggT, Bool.and_eq_true, beq_iff_eq] at ht
  obtain ⟨e1, e2⟩ := ht
  cases hu : P.underlying t with
  | none => simp [hu] at e1
  | some d =>
    refine runIn _ w hw ?_ h
    simp only [execOp, ho, hy, Sem.run_bind]
    rw [run_load_at t d cs ⟨b, f, none⟩ w hu (by cases d <;> simp [hu] at e1 <;> rfl) e2 (fun i v hi => by rw [add_none]; exact hc i v hi)]
    rfl
end
end Agg
end
section
/-
  THE WALKS OF LAYER 7 (runs): the iterator over the times of runs (all$1).
-/
namespace Ru
open Go Go.RowKit Agg
theorem times_at {l : List Rn} {k : Nat} {a s c : Int} (hk : k < l.length) (hr : l[k] = (a, s, c)) (i : Nat) (hi : (i : Int) < c) :
    ∃ h : (times (l.take k)).length + i < (times l).length, (times l)[(times (l.take k)).length + i] = a + s * i := by
  have h1 := times_take l k hk
  have hts : (ts l[k]).length = c.toNat := by rw [hr, ts_length]
  have h2 : (times l)[(times (l.take k)).length + i]? = some (a + s * i) := by
    rw [h1, List.getElem?_append_right (by omega), Nat.add_sub_cancel_left, List.getElem?_append_left (by omega), hr]
    simp [ts, List.getElem?_range (show i < c.toNat by omega), Int.mul_comm]
  exact ⟨(List.getElem?_eq_some_iff.1 h2).1, (List.getElem?_eq_some_iff.1 h2).2⟩
theorem times_next {l : List Rn} {k : Nat} {a s c : Int} (hk : k < l.length) (hr : l[k] = (a, s, c)) : (times (l.take (k + 1))).length = (times (l.take k)).length + c.toNat := by
  rw [List.take_succ_eq_append_getElem hk, hr]
  simp [times, ts_length]
theorem sized_here {a s c : Int} {n : Nat} (h : sized (a, s, c) = true) (hn : (n : Int) < c) : 0 ≤ s * n ∧ s * n ≤ 71776119061217280 ∧ 0 ≤ a ∧ a ≤ 281474976710656 := by
  obtain ⟨h1, h2, h3, h4, h5, h6⟩ := (sized_iff _).1 h
  simp only at h1 h2 h3 h4 h5 h6
  unfold maxT at *
  refine ⟨Int.mul_nonneg h5 (by omega), ?_, by omega, by omega⟩
  have := Int.mul_le_mul h6 (show (n : Int) ≤ 255 by omega) (by omega) (by omega)
  omega
/-- what a body owns lies within the memory -/
def Wd (Own : World → Nat → Prop) (A : World) : Prop := ∀ b, Own A b → b < A.heap.size
/-- a round keeps what lies below n0, and each run that its body does not own -/
def KpO (n0 : Nat) (Own : World → Nat → Prop) (A B : World) : Prop :=
  Below n0 A B ∧ A.heap.size ≤ B.heap.size ∧ (Wd Own A → Wd Own B) ∧ ∀ g cs, Blk A g 31 cs → ¬ Own A g → Blk B g 31 cs ∧ ¬ Own B g
def OkO (w0 : World) (n1 : Nat) (Own : World → Nat → Prop) (W : World) : Prop := Below w0.heap.size w0 W ∧ n1 ≤ W.heap.size ∧ Wd Own W
theorem KpO.trans {n0 : Nat} {Own : World → Nat → Prop} {A B C : World} (h1 : KpO n0 Own A B) (h2 : KpO n0 Own B C) : KpO n0 Own A C :=
  ⟨h1.1.trans h2.1, Nat.le_trans h1.2.1 h2.2.1, fun h => h2.2.2.1 (h1.2.2.1 h), fun g cs hb ho => let ⟨a, b⟩ := h1.2.2.2 g cs hb ho; h2.2.2.2 g cs a b⟩
end Ru
namespace Go.Proofs.Ytpligbfajnjklaa
open Go.ChangeShapes Go.WideShapes Go.ChangeAt Go.RowKit Agg Pg Ru
attribute [local go_sem] Oper.semAt_some

set_option maxHeartbeats 4000000 in
set_option maxRecDepth 100000 in
theorem all1_iter (l : List Rn) (x : Option Addr) (cap kb n1 : Nat) (w0 : World) (Own : World → Nat → Prop) (hr : risesB l = true)
    (hK : Blk w0 kb 24 [.slice x l.length cap]) (hl : Rus w0 (.slice x l.length cap) l)
    (hO : ∀ A B b, n1 ≤ A.heap.size → Below A.heap.size A B → (Own B b ↔ Own A b)) :
    Iter Try.prog 54 #[.pointer (some ⟨kb, 0, none⟩)] (fun t => #[.int .i64 t]) (fun A B => Below A.heap.size A B) (KpO w0.heap.size Own) (times l) (OkO w0 n1 Own) := by
  intro lr J Jx W hok hJ hJx hY h0
  have HR := Lib.hid hr
  have HK0 := Lib.hid hK
  have HL0 := Lib.hid hl
  have hln := (Rus.len hl).2
  have HO := Lib.hid hO
  have HJ := Lib.hid hJ
  have HJX := Lib.hid hJx
  have HY := Lib.hid hY
  have HK := Lib.hid (hK.keep hok.1)
  have HOK := Lib.hid hok
  have H00 := Lib.hid h0
  clear hr hK hl hO hJ hJx hY hok h0
  go_enter Try.func54, Try.ntmps54
  have c1 := HK.out.cell 0
  simp only [List.getElem?_cons_zero] at c1
  go_step3
  go_wp2_with fail
  go_step3
  go_wp2_with fail
  clear c1
  go_loopw [8] (fun i wr => ∃ k : Nat, k ≤ l.length ∧ i = .int .i64 k ∧ OkO w0 n1 Own wr ∧ J (times (l.take k)).length wr) (fun i _ => l.length - (intOf i).toNat)
  case atStart => exact ⟨0, by omega, rfl, HOK.out, H00.out⟩
  case round =>
    obtain ⟨k, hk, rfl, hok, hj⟩ := hrel
    have HOK1 := Lib.hid hok
    have HJ1 := Lib.hid hj
    clear hok hj HOK H00 HK
    by_cases hlt : k < l.length
    · have hat := at_rises HR.out hlt
      have hbig := hat.big
      have hpos := hat.pos
      have hsz := hat.siz
      have HL := Lib.hid (SlR.keep HL0.out HOK1.out.1)
      obtain ⟨b, o, cap', hve, _, _, _, _⟩ := SlR.pos HL.out (by decide) (by omega)
      simp only [Value.slice.injEq, true_and] at hve
      obtain ⟨rfl, rfl⟩ := hve
      have hrow := flat_at ruC 3 (by decide) HL.out (fun b hb => rfl) hlt
      obtain ⟨r, hr⟩ : ∃ r, l[k] = r := ⟨_, rfl⟩
      obtain ⟨a, s, c⟩ := r
      have HT := Lib.hid (fun i hi => times_at hlt hr i hi)
      have HN := Lib.hid (times_next hlt hr)
      rw [hr] at hrow hbig hsz
      simp only at hbig
      have hc0 := ((sized_iff _).1 hsz)
      simp only at hc0
      clear hr hat
      obtain ⟨M, hM⟩ : ∃ M, (times (l.take k)).length = M := ⟨_, rfl⟩
      rw [hM] at HT HN HJ1
      generalize many (l.take k) = mk at *
      clear hM
      obtain ⟨wA, hwA⟩ : ∃ x, x = wr := ⟨_, rfl⟩
      subst hwA
      go_upto_region 3 with (first
        | (refine Agg.gLoad 3 [.int .i64 a, .int .i64 s, .int .i64 c] rfl rfl rfl (by decide +kernel) rfl hrow ?_; simp only [Act.put, List.setIfInBounds_toArray, List.set_cons_succ, List.set_cons_zero])
        | (refine Agg.allocRow 31 #[.int .i64 0, .int .i64 0, .int .i64 0] rfl rfl (by kernel_rfl) ?_; simp only [Act.put, List.setIfInBounds_toArray, List.set_cons_succ, List.set_cons_zero])
        | (refine Agg.gStoreNew 3 [.int .i64 a, .int .i64 s, .int .i64 c] rfl rfl rfl rfl rfl rfl (by decide +kernel) rfl rfl rfl ?_; simp only [Act.put]))
      have HBX := Lib.hid (Blk.new wA 31 #[.int .i64 a, .int .i64 s, .int .i64 c])
      have hbA : Below wA.heap.size wA (wA.alloc (.cells #[.int .i64 a, .int .i64 s, .int .i64 c] 31)) := (Below.refl _ _).alloc (Nat.le_refl _) _
      have HJB := Lib.hid (HJ.out _ _ _ HJ1.out hbA)
      have hown : ¬ Own (wA.alloc (.cells #[.int .i64 a, .int .i64 s, .int .i64 c] 31)) wA.heap.size := fun h => by
        have := HOK1.out.2.2 _ ((HO.out wA _ _ HOK1.out.2.1 hbA).1 h); omega
      have hwd : Wd Own (wA.alloc (.cells #[.int .i64 a, .int .i64 s, .int .i64 c] 31)) := fun b h => by
        have h1 := HOK1.out.2.2 _ ((HO.out wA _ _ HOK1.out.2.1 hbA).1 h)
        exact Nat.lt_of_lt_of_le h1 hbA.size
      have HOKB : Hid (OkO w0 n1 Own (wA.alloc (.cells #[.int .i64 a, .int .i64 s, .int .i64 c] 31))) := Lib.hid ⟨HOK1.out.1.trans (hbA.mono HOK1.out.1.size), Nat.le_trans HOK1.out.2.1 hbA.size, hwd⟩
      have HOW := Lib.hid hown
      refine Agg.wp_at fun wB hwB => ?_
      rw [← hwB.out] at HBX HJB HOKB HOW
      clear hwB hrow hbA hown hwd HL HJ1 HOK1
      have e2 := HBX.out.cell 2
      simp only [List.getElem?_cons_zero, List.getElem?_cons_succ] at e2
      generalize wA.heap.size = g at *
      go_wp2_with fail
      go_loopw [14] (fun i wr => ∃ n : Nat, (n : Int) ≤ c ∧ i = .int .i64 n ∧ OkO w0 n1 Own wr ∧ J (M + n) wr ∧ Blk wr g 31 [.int .i64 a, .int .i64 s, .int .i64 c] ∧ ¬ Own wr g) (fun i _ => c.toNat - (intOf i).toNat)
      case atStart => exact ⟨0, by omega, rfl, HOKB.out, HJB.out, HBX.out, HOW.out⟩
      case round =>
        obtain ⟨n, hn, rfl, hok, hj, hb, ho⟩ := hrel
        have HOK2 := Lib.hid hok
        have HJ2 := Lib.hid hj
        have HBX2 := Lib.hid hb
        have HOW2 := Lib.hid ho
        clear hok hj hb ho HOKB HJB HBX HOW
        by_cases hnc : (n : Int) < c
        · obtain ⟨m1, m2, m3, m4⟩ := sized_here hsz hnc
          obtain ⟨hMl, hMe⟩ := HT.out n hnc
          obtain ⟨fn, tmps, assign, body, hy, hR⟩ := HY.out (M + n) hMl wr HJ2.out
          rw [hMe] at hy
          have e0 := HBX2.out.cell 0
          have e1 := HBX2.out.cell 1
          simp only [List.getElem?_cons_zero, List.getElem?_cons_succ] at e0 e1
          clear hMe
          refine (wpIn_wide (n := 2)).1 ?_
          gi_wp2
          refine hR.mono ?_
          rintro e W2 (⟨rfl, hj2, hk2⟩ | ⟨rfl, hjx2⟩)
          · have HJ3 := Lib.hid hj2
            have HK3 := Lib.hid hk2
            clear hj2 hk2 hR hy e0 e1
            gi_wp2
            go_wp2_with fail
            obtain ⟨q1, q2⟩ := HK3.out.2.2.2 _ _ HBX2.out HOW2.out
            exact ⟨⟨n + 1, by omega, by go_num, ⟨HOK2.out.1.trans HK3.out.1, Nat.le_trans HOK2.out.2.1 HK3.out.2.1, HK3.out.2.2.1 HOK2.out.2.2⟩, HJ3.out, q1, q2⟩, by simp [intOf]; omega⟩
          · have HJX2 := Lib.hid hjx2
            clear hjx2 hR hy e0 e1
            gi_wp2
            go_wp2_with fail
            rw [Exit.noGoto_normal]
            go_end0
            exact ⟨⟨_, rfl⟩, .inr ⟨_, hMl, HJX2.out⟩⟩
        · have HJ4 : Hid (J (times (l.take (k + 1))).length wr) := Lib.hid (by rw [HN.out, show c.toNat = n by omega]; exact HJ2.out)
          go_wp2_with fail
          exact ⟨⟨k + 1, by omega, by go_num, HOK2.out, HJ4.out⟩, by simp [intOf]; omega⟩
    · obtain rfl : k = l.length := by omega
      rw [List.take_length] at HJ1
      go_wp2_with fail
      rw [Exit.noGoto_normal]
      go_end0
      exact ⟨⟨_, rfl⟩, .inl HJ1.out⟩
end Go.Proofs.Ytpligbfajnjklaa
end
