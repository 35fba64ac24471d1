/-
  RANGE OVER A FUNCTION: the law. An iterator tells a list; it may turn memory of its own. Over any program.
-/
import Derived.Shelf.Abstract
import Derived.Shelf.RegionOpen
import Derived.OwnWalkIn
import Derived.TacticsInMore
import Derived.LoopNIn
import Derived.LoopIn
import Derived.Test.YtjnnnnolikbjcaaIter
import Derived.Test.YtjnnnnolikbjcaaRow
section
namespace Agg
open Go Go.RowKit
/-- an iterator that tells a list: it does no more to the memory between two rounds than Ab says; of a round that goes on it wants Kp -/
def Iter {α : Type} (P : Program) (g : Nat) (lb : Array Value) (encs : α → Array Value) (Ab Kp : World → World → Prop) (xs : List α) (Ok : World → Prop) : Prop :=
  ∀ (l : Nat) (J Jx : Nat → World → Prop) (W : World), Ok W → (∀ k A B, J k A → Ab A B → J k B) → (∀ k A B, Jx k A → Ab A B → Jx k B) →
    (∀ (k : Nat) (hk : k < xs.length) (W1 : World), J k W1 → YieldAt Fence.wide 1 P l (encs xs[k]) W1 fun e W' =>
      (e = .returned (.bool true) ∧ J (k + 1) W' ∧ Kp W1 W') ∨ (e = .returned (.bool false) ∧ Jx (k + 1) W')) →
    J 0 W → Calls P g (#[.func (.yield l) #[] #[]] ++ lb) W fun e W' => (∃ v, e = .returned v) ∧ (J xs.length W' ∨ ∃ k, k ≤ xs.length ∧ Jx k W')
/-- how a round's body may be left -/
def roundEnd (B : Nat) (Kp : World → World → Prop) (I : Nat → World → Prop) (Ix : Code → Nat → World → Prop) (k : Nat) (W : World) : Exit → Act → World → Prop
  | .normal, _, W' => KeepsFrom B W W' ∧ Kp W W' ∧ I k W'
  | .ret, _, W' => KeepsFrom B W W' ∧ Ix .ret k W'
  | .exit id, _, W' => KeepsFrom B W W' ∧ Ix (.exit id) k W'
  | .goto t, _, W' => KeepsFrom B W W' ∧ Ix (.goto t) k W'
  | .panic _, _, _ => False
  | .outgrown, _, _ => False
theorem roundEnd_no {B : Nat} {Kp : World → World → Prop} {I : Nat → World → Prop} {Ix : Code → Nat → World → Prop} {k : Nat} {W : World} : ¬ LetsOut (roundEnd B Kp I Ix k W) := fun ⟨_, _, h⟩ => h
theorem then_no {K : Act → World → Prop} {Q : Exit → Act → World → Prop} (h : ¬ LetsOut Q) : ¬ LetsOut (Exit.then K Q) := fun ⟨a, w, h2⟩ => h ⟨a, w, h2⟩
theorem block_no {id : Nat} {Q : Exit → Act → World → Prop} (h : ¬ LetsOut Q) : ¬ LetsOut (Exit.inBlock id Q) := fun ⟨a, w, h2⟩ => h ⟨a, w, h2⟩
theorem false_no {K : Act → World → Prop} : ¬ LetsOut (Exit.then K (fun _ _ _ => False)) := fun ⟨_, _, h⟩ => h
theorem range_iter {α : Type} {P : Program} {g : Operand} {ps : Array Tmp} {assign body : Code} {Q : Exit → Act → World → Prop} {a : Act} {w : World} {gf : Nat} {lb : Array Value} (hg : a.eval g = .func (.func gf) #[] lb)
    (eg : ∀ args w, (callFunc gf args).run P w = .ok (.enter gf args) w) {encs : α → Array Value} {Ab Kp : World → World → Prop} {xs : List α} {Ok : World → Prop} (hit : Iter P gf lb encs Ab Kp xs Ok)
    (hok : ∀ W, Below w.heap.size w W → Ok W) (hAb : ∀ A B, Ab A B → ∃ row, A.grownBy B row ∧ ∀ r, row = some r → r < w.heap.size)
    (hKt : ∀ A B C, Kp A B → Kp B C → Kp A C) (hKb : ∀ A B, Turn w.heap.size A B → Kp A B) (hps : ∀ x, (encs x).size = ps.size)
    (I : Nat → World → Prop) (Ix : Code → Nat → World → Prop) (hI : ∀ k A B, I k A → Turn w.heap.size A B → I k B) (hIx : ∀ c k A B, Ix c k A → Turn w.heap.size A B → Ix c k B)
    (hIA : ∀ k A B, I k A → Ab A B → I k B) (hIxA : ∀ c k A B, Ix c k A → Ab A B → Ix c k B) (h0 : ∀ W, Below w.heap.size w W → I 0 W)
    (hround : ∀ (l k : Nat) (hk : k < xs.length) (W : World), w.heap.size ≤ W.heap.size → I k W → assign.wpIn (Fence.wide.inRound l) 1 P
      (Exit.then (fun a₁ W₁ => KeepsFrom w.heap.size W W₁ ∧ Kp W W₁ ∧ ∀ W₂, Turn w.heap.size W₁ W₂ → body.wpIn (Fence.wide.inRound l) 1 P (roundEnd w.heap.size Kp I Ix (k + 1) W₂) a₁ W₂) (fun _ _ _ => False))
      { tmps := (ps.zip (encs xs[k])).foldl (fun t (p, v) => t.setIfInBounds p v) a.tmps, defers := [] } W)
    (hdone : ∀ (D : Nat) (W : World), w.heap.size ≤ D → I xs.length W → W.heap[D]? = some (.deferred (some [])) → Q .normal { a with defers := { target := .collected D, args := #[] } :: a.defers } W)
    (hstop : ∀ (D : Nat) (c : Code) (k : Nat) (W : World), w.heap.size ≤ D → k ≤ xs.length → Ix c k W → W.heap[D]? = some (.deferred (some [])) → c.wp P Q { a with defers := { target := .collected D, args := #[] } :: a.defers } W) :
    (Code.rangeFunc g ps assign body).wp P Q a w := by
  refine (wpIn_wide (n := 3)).1 (wpIn_rangeFunc ?_)
  intro fn hfn
  obtain ⟨rec, hrec⟩ : ∃ rec : LoopState → Option Code → Loop, rec = fun st pe => { state := st, pending := pe, fn, tmps := a.tmps, params := ps, assign, body, defers := w.heap.size } := ⟨_, rfl⟩
  obtain ⟨W1, hW1⟩ : ∃ W1, (w.alloc (.deferred (some []))).alloc (.loop (rec .ready none)) = W1 := ⟨_, rfl⟩
  have hL1 : W1.heap[w.heap.size + 1]? = some (.loop (rec .ready none)) := by
    rw [← hW1]; have := World.alloc_heap_new (w.alloc (.deferred (some []))) (.loop (rec .ready none)); rwa [World.size_alloc] at this
  have hK1 : W1.heap[w.heap.size]? = some (.deferred (some [])) := by
    rw [← hW1]; exact (Below.heap_alloc _ _ _ (by simp)).trans (World.alloc_heap_new w _)
  have hb1 : Below w.heap.size w W1 := by
    rw [← hW1]; exact ((Below.refl _ w).alloc (Nat.le_refl _) _).alloc (by simp) _
  have put : ∀ {W : World} {l : Nat} {o : Obj} (o' : Obj), w.heap.size ≤ l → W.heap[l]? = some o → o.isCells = false → Turn w.heap.size W (W.putObj l o') := fun o' h1 h2 h3 => ⟨_, _, o', rfl, h1, h2, h3⟩
  refine ⟨w.heap.size + 1, [{ target := .collected w.heap.size, args := #[] }], W1, { target := .fn (.func gf) lb, args := #[.func (.yield (w.heap.size + 1)) #[] #[]] }, W1, gf,
    #[.func (.yield (w.heap.size + 1)) #[] #[]] ++ lb, W1, ?_, ?_, fun _ _ => trivial, ?_, fun e => (by cases e), ?_⟩
  · rw [← hW1, hrec]; exact run_enterLoop_outer _ _ _ _ _
  · simp only [resolve, hg]
    simp [go_sem]
  · simp [invoke, go_sem, eg]
  · have keep : ∀ {A B : World} {l : Nat} {o : Obj}, Ab A B → w.heap.size ≤ l → A.heap[l]? = some o → B.heap[l]? = some o := fun {A B l o} hab hl ho => by
      obtain ⟨row, hgr, hlt⟩ := hAb A B hab
      rw [hgr.block l (Array.getElem?_eq_some_iff.1 ho).1 (fun e => by have := hlt l e.symm; omega)]
      exact ho
    refine (callsIn_wide (n := 3 - 1)).2 (Calls.mono (hit (w.heap.size + 1)
      (fun k W => (I k W ∧ w.heap.size ≤ W.heap.size) ∧ W.heap[w.heap.size + 1]? = some (.loop (rec .ready none)) ∧ W.heap[w.heap.size]? = some (.deferred (some [])))
      (fun k W => ∃ c, Ix c k W ∧ W.heap[w.heap.size + 1]? = some (.loop (rec .done (some c))) ∧ W.heap[w.heap.size]? = some (.deferred (some [])))
      W1 (hok W1 hb1)
      (fun k A B hs hab => ⟨⟨hIA k A B hs.1.1 hab, by obtain ⟨row, hgr, _⟩ := hAb A B hab; exact Nat.le_trans hs.1.2 hgr.size⟩, keep hab (by omega) hs.2.1, keep hab (Nat.le_refl _) hs.2.2⟩)
      (fun k A B hs hab => by
        obtain ⟨c, hc, hl, hk⟩ := hs
        exact ⟨c, hIxA c k A B hc hab, keep hab (by omega) hl, keep hab (Nat.le_refl _) hk⟩)
      ?_ ⟨⟨h0 W1 hb1, hb1.size⟩, hL1, hK1⟩) ?_)
    · rintro k hlen W ⟨⟨hi, hsz⟩, hl, hk⟩
      have hlt : w.heap.size + 1 < W.heap.size := (Array.getElem?_eq_some_iff.1 hl).1
      have hy := run_yield (P := P) (args := encs xs[k]) hl (by rw [hrec]; exact hps _)
      rw [hrec] at hy
      refine ⟨fn, _, assign, body, hy, roundIn_of_wpIn hfn (wpIn_mono (hround (w.heap.size + 1) k hlen W hsz hi) ?_)⟩
      clear hy
      rintro e a' Wa hA
      cases e with
      | normal =>
        obtain ⟨hkfa, hkpa, hax⟩ := hA
        replace hl := hkfa.same _ _ (by omega) hl rfl
        replace hk := hkfa.same _ _ (Nat.le_refl _) hk rfl
        replace hlt : w.heap.size + 1 < Wa.heap.size := (Array.getElem?_eq_some_iff.1 hl).1
        refine ⟨_, run_beginRound hl (by rw [hrec]), ?_⟩
        have hl2 : (Wa.putObj (w.heap.size + 1) (.loop { rec .ready none with state := .busy })).heap[w.heap.size + 1]? = some (.loop { rec .ready none with state := .busy }) := World.putObj_heap_same hlt
        have hk2 : (Wa.putObj (w.heap.size + 1) (.loop { rec .ready none with state := .busy })).heap[w.heap.size]? = some (.deferred (some [])) := (World.putObj_heap_other (by omega)).trans hk
        have hT : Turn w.heap.size Wa (Wa.putObj (w.heap.size + 1) (.loop { rec .ready none with state := .busy })) := put _ (by omega) hl rfl
        refine wpIn_mono (hax _ hT) ?_
        have fin : ∀ (jump : Option Code) (W3 : World), KeepsFrom w.heap.size (Wa.putObj (w.heap.size + 1) (.loop { rec .ready none with state := .busy })) W3 →
            (Instr.endRound (w.heap.size + 1) jump).run P W3 = .ok (.bool jump.isNone) (W3.putObj (w.heap.size + 1) (.loop (rec (if jump.isNone then .ready else .done) jump))) ∧
            W3.heap[w.heap.size + 1]? = some (.loop { rec .ready none with state := .busy }) ∧
            (W3.putObj (w.heap.size + 1) (.loop (rec (if jump.isNone then .ready else .done) jump))).heap[w.heap.size + 1]? = some (.loop (rec (if jump.isNone then .ready else .done) jump)) ∧
            (W3.putObj (w.heap.size + 1) (.loop (rec (if jump.isNone then .ready else .done) jump))).heap[w.heap.size]? = some (.deferred (some [])) := fun jump W3 hk3 => by
          have hl3 := hk3.same _ _ (by omega) hl2 rfl
          have := run_endRound (P := P) jump hl3
          rw [hrec] at this ⊢
          exact ⟨this, by rw [hrec] at hl3; exact hl3, World.putObj_heap_same (Array.getElem?_eq_some_iff.1 hl3).1, (World.putObj_heap_other (by omega)).trans (hk3.same _ _ (Nat.le_refl _) hk2 rfl)⟩
        rintro e a3 W3 hp
        cases e with
        | normal =>
          obtain ⟨hk3, hkp3, hi3⟩ := hp
          obtain ⟨hr, hl3, hl4, hk4⟩ := fin none W3 hk3
          have hT3 : Turn w.heap.size W3 _ := put (.loop (rec .ready none)) (by omega) hl3 rfl
          exact ⟨_, _, hr, .inl ⟨rfl, ⟨⟨hI _ _ _ hi3 hT3, by rw [World.putObj_size]; have := hk3.size; rw [World.putObj_size] at this; omega⟩, hl4, hk4⟩, hKt _ _ _ hkpa (hKt _ _ _ (hKt _ _ _ (hKb _ _ hT) hkp3) (hKb _ _ hT3))⟩⟩
        | ret =>
          obtain ⟨hk3, hi3⟩ := hp
          obtain ⟨hr, hl3, hl4, hk4⟩ := fin (some .ret) W3 hk3
          exact ⟨_, _, hr, .inr ⟨rfl, .ret, hIx _ _ _ _ hi3 (put _ (by omega) hl3 rfl), hl4, hk4⟩⟩
        | exit id =>
          obtain ⟨hk3, hi3⟩ := hp
          obtain ⟨hr, hl3, hl4, hk4⟩ := fin (some (.exit id)) W3 hk3
          exact ⟨_, _, hr, .inr ⟨rfl, .exit id, hIx _ _ _ _ hi3 (put _ (by omega) hl3 rfl), hl4, hk4⟩⟩
        | goto t =>
          obtain ⟨hk3, hi3⟩ := hp
          obtain ⟨hr, hl3, hl4, hk4⟩ := fin (some (.goto t)) W3 hk3
          exact ⟨_, _, hr, .inr ⟨rfl, .goto t, hIx _ _ _ _ hi3 (put _ (by omega) hl3 rfl), hl4, hk4⟩⟩
        | panic ch => exact hp.elim
        | outgrown => exact hp.elim
      | _ => exact hA.elim
    · rintro e W2 ⟨⟨v, rfl⟩, (⟨⟨hi, _⟩, hl, hk⟩ | ⟨k, hk2, c, hi, hl, hk⟩)⟩
      · exact ⟨none, _, by have := run_endLoop (P := P) hl (by rw [hrec]; simp); rw [hrec] at this; exact this, hdone _ _ (Nat.le_refl _) (hI _ _ _ hi (put _ (by omega) hl rfl)) ((World.putObj_heap_other (by omega)).trans hk)⟩
      · exact ⟨some c, _, by have := run_endLoop (P := P) hl (by rw [hrec]; simp); rw [hrec] at this; exact this, wpIn_wide.2 (hstop _ c k _ (Nat.le_refl _) hk2 (hIx _ _ _ _ hi (put _ (by omega) hl rfl)) ((World.putObj_heap_other (by omega)).trans hk))⟩
/-! a function that holds such a loop -/
theorem calls_of_marks {P : Program} {f : FuncId} {fn : Func} {c : Code} {args : Array Value} {w : World} {R : Ending → World → Prop} (hf : P.funcs[f]? = some fn) (hb : fn.body = some c)
    (h : c.wp P (bodyPostM Fence.wide 3 P fn R) { tmps := args ++ Array.replicate (fn.ntmps - args.size) undef, defers := [] } w) : Calls P f args w R :=
  (callsIn_wide (n := 3)).1 (callsIn_of_wp_marks hf hb trivial (wpIn_wide.2 h))
/-- it returns ahead of the loop -/
theorem marks_ret0 {P : Program} {fn : Func} {R : Ending → World → Prop} {tmps : Array Value} {w : World} {v : Value} (hr : (results fn tmps).run P w = .ok v w) (h : R (.returned v) w) : bodyPostM Fence.wide 3 P fn R .ret ⟨tmps, []⟩ w := ⟨v, hr, h⟩
/-- it returns behind the loop: the block of the rounds' deferred calls is shut -/
theorem marks_ret1 {P : Program} {fn : Func} {R : Ending → World → Prop} {tmps : Array Value} {w : World} {D : Nat} {v : Value} (hD : w.heap[D]? = some (.deferred (some []))) (hr : (results fn tmps).run P (w.putObj D (.deferred none)) = .ok v (w.putObj D (.deferred none))) (h : R (.returned v) (w.putObj D (.deferred none))) :
    bodyPostM Fence.wide 3 P fn R .ret ⟨tmps, [{ target := .collected D, args := #[] }]⟩ w :=
  ⟨by simp, .inl ⟨D, _, rfl, run_takeDeferred hD, v, hr, h⟩⟩
theorem shut_turn {B D : Nat} {w : World} (hD : w.heap[D]? = some (.deferred (some []))) (hB : B ≤ D) : Turn B w (w.putObj D (.deferred none)) := ⟨D, _, _, rfl, hB, hD, rfl⟩
end Agg
end
section
/-
  RANGE OVER A FUNCTION: operations in a fence. Over any program.
-/
namespace Agg
open Go Go.RowKit
section
variable {n : Nat} {P : Program} {ops : Array Oper} {Q : Exit → Act → World → Prop} {a : Act} {w : World} {rest : List Oper} {o : Oper}
theorem runIn (v : Value) (w' : World) (hw : Region.wanted o (yielded ops a.tmps) = true) (hr : (execOp a.eval o).run P w = .ok (.value v) w') (h : wpListIn Fence.wide n P ops Q rest (a.put o.dst v) w') : wpListIn Fence.wide n P ops Q (o :: rest) a w := by
  unfold wpListIn
  rw [if_pos hw]
  refine ⟨fun _ _ => trivial, ?_⟩
  show o.uponIn Fence.wide n P a _ Q ((execOp a.eval o).run P w)
  rw [hr]
  exact h
theorem gLoadIn {t : TypeId} {y : Operand} {b f : Nat} (m : Nat) (cs : List Value) (hw : Region.wanted o (yielded ops a.tmps) = true) (ho : o.op = .load t y) (hy : a.eval y = .pointer (some ⟨b, f, none⟩)) (ht : aggT P t m = true) (hl : cs.length = m)
    (hc : ∀ i v, cs[i]? = some v → w.cell? ⟨b, f + i, none⟩ = some v) (h : wpListIn Fence.wide n P ops Q rest (a.put o.dst (.agg cs.toArray)) w) : wpListIn Fence.wide n P ops Q (o :: rest) a w := by
  subst hl
  simp only [aggT, Bool.and_eq_true, beq_iff_eq] at ht
  obtain ⟨e1, e2⟩ := ht
  cases hu : P.underlying t with
  | none => simp [hu] at e1
  | some d =>
    refine runIn _ w hw ?_ h
    simp only [execOp, ho, hy, Sem.run_bind]
    rw [run_load_at t d cs ⟨b, f, none⟩ w hu (by cases d <;> simp [hu] at e1 <;> rfl) e2 (fun i v hi => by rw [add_none]; exact hc i v hi)]
    rfl
end
end Agg
end
section
/-
  DEVICES: backwards, an iterator.
-/
namespace Go.Proofs.Ytjnnnnolikbjcaa
open Go.ChangeShapes Go.WideShapes Go.ChangeAt Go.RowKit Agg Pg Dv
attribute [local go_sem] Oper.semAt_some

/-- the blocks of a page's writes -/
def ofPage (k : Int) (l : List (Int × List Sec)) : List (List Sec) := (l.filter fun x => decide (x.1 = k)).map (·.2)
theorem ofPage_append (k : Int) (l m : List (Int × List Sec)) : ofPage k (l ++ m) = ofPage k l ++ ofPage k m := by simp [ofPage]
theorem ofPage_succ (k : Int) (l : List (Int × List Sec)) (r : Nat) (h : r < l.length) : ofPage k (l.take (r + 1)) = ofPage k (l.take r) ++ if l[r].1 = k then [l[r].2] else [] := by
  rw [List.take_succ_eq_append_getElem h, ofPage_append]
  by_cases e : l[r].1 = k <;> simp [ofPage, e]
theorem ofPage_at (k : Int) (l : List (Int × List Sec)) (r : Nat) (h : r < l.length) (e : l[r].1 = k) : ∃ h2 : (ofPage k (l.take r)).length < (ofPage k l).length, (ofPage k l)[(ofPage k (l.take r)).length] = l[r].2 := by
  have h1 : ofPage k l = ofPage k (l.take r) ++ (l[r].2 :: ofPage k (l.drop (r + 1))) := by
    conv => lhs; rw [← List.take_append_drop (r + 1) l]
    rw [ofPage_append, ofPage_succ k l r h, if_pos e]; simp
  have h2 : (ofPage k (l.take r)).length < (ofPage k l).length := by rw [h1]; simp
  refine ⟨h2, ?_⟩
  have h3 : (ofPage k l)[(ofPage k (l.take r)).length]? = some l[r].2 := by
    conv => lhs; rw [h1]
    simp
  exact (List.getElem?_eq_some_iff.1 h3).2
def encB (b : List Sec) : Array Value := #[.agg (blkC b).toArray]
set_option maxHeartbeats 4000000 in
set_option maxRecDepth 100000 in
theorem backwards_iter (l : List (Int × List Sec)) (k : Int) (p z q : Value) (y : Option Addr) (cm : Nat) (T : TypeId) (db kb : Nat) (w0 : World) (hl : l.length ≤ 1000000) (hC : ∀ x ∈ l, BOk x.2)
    (hD : Blk w0 db T [p, .slice y l.length cm, z, q]) (hK : Blk w0 kb 3 [.int .i64 k]) (hv : Wrs w0 (.slice y l.length cm) l) :
    Iter Try.prog 89 #[.pointer (some ⟨db, 0, none⟩), .pointer (some ⟨kb, 0, none⟩)] encB (fun A B => Below A.heap.size A B) (Below w0.heap.size) (ofPage k l.reverse) (Below w0.heap.size w0) := by
  intro lr J Jx W hok hJ hJx hY h0
  have HCB := Lib.hid hC
  have HD0 := Lib.hid hD
  have HK0 := Lib.hid hK
  have HV0 := Lib.hid hv
  have HW : Hid (∀ x ∈ l, (wrC x).length = 133) := Lib.hid (fun x hx => wrC_length x (hC x hx))
  have hln : (l.length : Int) ≤ 1000000 := by omega
  have HJ := Lib.hid hJ
  have HJX := Lib.hid hJx
  have HY := Lib.hid hY
  have HD := Lib.hid (hD.keep hok)
  have HOK := Lib.hid hok
  have H00 := Lib.hid h0
  clear hC hD hK hv hJ hJx hY hok h0 hl
  go_enter Try.func89, Try.ntmps89
  have c1 := HD.out.cell 1
  simp only [List.getElem?_cons_zero, List.getElem?_cons_succ] at c1
  go_wp2_with fail
  clear c1
  go_loopw [4, 5] (fun i _ wr => ∃ r : Nat, r ≤ l.length ∧ i = .int .i64 ((l.length : Int) - 1 - r) ∧ Below w0.heap.size w0 wr ∧ J (ofPage k (l.reverse.take r)).length wr) (fun i _ _ => (intOf i + 1).toNat)
  case atStart => exact ⟨0, by omega, by simp, HOK.out, H00.out⟩
  case round =>
    obtain ⟨r, hr, rfl, hb, hj⟩ := hrel
    have HB := Lib.hid hb
    have HJ0 := Lib.hid hj
    clear hb hj HOK H00 HD
    by_cases hlt : r < l.length
    · obtain ⟨j, hj⟩ : ∃ j : Nat, j = l.length - 1 - r := ⟨_, rfl⟩
      have hjl : j < l.length := by omega
      have hji : (l.length : Int) - 1 - r = j := by omega
      have HJ1 : Hid ((l.length : Int) - 1 - (r + 1 : Nat) = (j : Int) - 1) := Lib.hid (by omega)
      have hrl : r < l.reverse.length := by rw [List.length_reverse]; exact hlt
      have hjr : l.reverse[r] = l[j] := by rw [List.getElem_reverse]; congr 1; omega
      have HS := Lib.hid (ofPage_succ k l.reverse r hrl)
      have HA := Lib.hid (ofPage_at k l.reverse r hrl)
      rw [hjr] at HS HA
      rw [hji]
      have HD := Lib.hid (HD0.out.keep HB.out)
      have HK := Lib.hid (HK0.out.keep HB.out)
      have HV := Lib.hid (SlR.keep HV0.out HB.out)
      obtain ⟨b, o, cap', hve, _, _, _, _⟩ := SlR.pos HV.out (by decide) (by omega)
      simp only [Value.slice.injEq, true_and] at hve
      obtain ⟨rfl, rfl⟩ := hve
      have hcs := flat_at wrC 133 (by decide) HV.out HW.out hjl
      have h133 := HW.out _ (List.getElem_mem hjl)
      have h1 := wrC_one l[j]
      have HBO := Lib.hid (HCB.out _ (List.getElem_mem hjl))
      obtain ⟨M, hM⟩ : ∃ M, (ofPage k (l.reverse.take r)).length = M := ⟨_, rfl⟩
      rw [hM] at HJ0 HA
      have HM := Lib.hid hM
      generalize l[j] = s at *
      clear hj hji hrl hjr hM
      obtain ⟨wA, hwA⟩ : ∃ x, x = wr := ⟨_, rfl⟩
      subst hwA
      have c1 := HD.out.cell 1
      simp only [List.getElem?_cons_zero, List.getElem?_cons_succ] at c1
      go_upto_region 4 with (first
        | (refine Agg.gLoad 133 (wrC s) rfl rfl rfl (by decide +kernel) h133 hcs ?_; simp only [Act.put, List.setIfInBounds_toArray, List.set_cons_succ, List.set_cons_zero])
        | (refine Agg.allocRow 88 wr0.toArray rfl rfl (by kernel_rfl) ?_; simp only [Act.put, List.setIfInBounds_toArray, List.set_cons_succ, List.set_cons_zero])
        | (refine Agg.gStoreNew 133 (wrC s) rfl rfl rfl rfl rfl rfl (by decide +kernel) h133 wr0_size h1 ?_; simp only [Act.put]))
      have HBX := Lib.hid (Blk.new wA 88 (wrC s).toArray)
      have hbA : Below wA.heap.size wA (wA.alloc (.cells (wrC s).toArray 88)) := (Below.refl _ _).alloc (Nat.le_refl _) _
      have HJB := Lib.hid (HJ.out _ _ _ HJ0.out hbA)
      have HBB := Lib.hid (HB.out.trans (hbA.mono HB.out.size))
      have HKB := Lib.hid (HK.out.keep hbA)
      refine Agg.wp_at fun wB hwB => ?_
      rw [← hwB.out] at HBX HJB HBB HKB
      clear hwB hcs h1 h133 hbA c1 HD HK HV HB HJ0
      have e0 := HBX.out.cell 0
      have ek := HKB.out.cell 0
      simp only [wrC, List.getElem?_cons_zero] at e0 ek
      by_cases hs : s.1 = k
      · have hsb : (s.1 == k) = true := by simpa using hs
        obtain ⟨hMl, hMe⟩ := HA.out hs
        obtain ⟨fn, tmps, assign, body, hy, hR⟩ := HY.out M hMl wB HJB.out
        rw [hMe] at hy
        dsimp only [encB] at hy
        have HMS : Hid ((ofPage k (l.reverse.take (r + 1))).length = M + 1) := Lib.hid (by rw [HS.out, if_pos hs, List.length_append, HM.out]; rfl)
        clear hs HA HS hMe
        have h132 := bok_cells HBO.out
        have hc132 : ∀ i v, (blkC s.2)[i]? = some v → wB.cell? ⟨wA.heap.size, 1 + i, none⟩ = some v := fun i v hi => by
          rw [HBX.out.cell, show 1 + i = i + 1 by omega]; exact hi
        refine (wpIn_wide (n := 2)).1 ?_
        gi_wp2_with (refine Agg.gLoadIn 132 (blkC s.2) rfl rfl rfl (by decide +kernel) h132 hc132 ?_; simp only [Act.put, List.setIfInBounds_toArray, List.set_cons_succ, List.set_cons_zero])
        refine hR.mono ?_
        rintro e W2 (⟨rfl, hJ2, hk2⟩ | ⟨rfl, hJx2⟩)
        · have HJ2 := Lib.hid hJ2
          have HB2 := Lib.hid (HBB.out.trans hk2)
          clear hJ2 hk2 hR hy h132 hc132 e0 ek HBX HKB HJB HBB
          gi_wp2
          go_wp2_with fail
          go_roundw
          case rel => exact ⟨r + 1, by omega, by rw [HJ1.out], HB2.out, by rw [HMS.out]; exact HJ2.out⟩
          case measure => simp [intOf]
        · have HJX2 := Lib.hid hJx2
          clear hJx2 hR hy h132 hc132 e0 ek HBX HKB HJB HBB
          gi_wp2
          go_wp2_with fail
          refine bodyPost_ret (results_none rfl _ _ _) rfl ?_
          exact ⟨⟨_, rfl⟩, .inr ⟨M + 1, hMl, HJX2.out⟩⟩
      · have hsb : (s.1 == k) = false := by simpa using hs
        have HMS : Hid ((ofPage k (l.reverse.take (r + 1))).length = M) := Lib.hid (by rw [HS.out, if_neg hs, List.append_nil, HM.out])
        clear hs HA HS
        go_wp2_with fail
        go_roundw
        case rel => exact ⟨r + 1, by omega, by rw [HJ1.out], HBB.out, by rw [HMS.out]; exact HJB.out⟩
        case measure => simp [intOf]
    · obtain rfl : r = l.length := by omega
      have hneg : (l.length : Int) - 1 - l.length = -1 := by omega
      rw [hneg]
      go_wp2_with fail
      go_end0
      refine ⟨⟨_, rfl⟩, .inl ?_⟩
      have := HJ0.out
      rwa [List.take_of_length_le (by simp)] at this
end Go.Proofs.Ytjnnnnolikbjcaa
end
