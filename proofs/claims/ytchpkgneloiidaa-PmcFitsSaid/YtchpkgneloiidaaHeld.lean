/-
  THE WALKS OF LAYER 4 (span), fourth part: Join, Meet, Least, Most, Within, Width, Middle.
-/
import Derived.OrdersHeld
import Derived.Test.YtchpkgneloiidaaPmS3
import Derived.Test.YtchpkgneloiidaaChain2
import Derived.Test.YtchpkgneloiidaaCopy
section
namespace Go.Proofs.Ytchpkgneloiidaa
open Go.ChangeShapes Go.WideShapes Go.ChangeAt Go.RowKit Agg

theorem fo_Span_0 : Agg.fieldOff Try.prog 26 0 = some 0 := by kernel_rfl
theorem fo_Span_1 : Agg.fieldOff Try.prog 26 1 = some 1 := by kernel_rfl
theorem Meet_any (l : List Sp) (v : Value) (w : World) (hv : Spans w v l) (hn : l.length ≤ 1000) (r : Sp) (er : Int) (hr : tog meetF l = (r, er)) :
    Calls Try.prog 50 #[v] w fun e w' => e = .returned (.tuple #[.agg #[.int .i64 r.1, .int .i64 r.2], .int .i64 er]) ∧ Below w.heap.size w w' := by
  obtain ⟨x, cap, rfl, _, _⟩ := hv.shape
  have HV := Lib.hid hv
  have HR := Lib.hid hr
  have HN := Lib.hid hn
  clear hv hr hn
  have HB := Lib.hid (Below.refl w.heap.size w)
  go_enter Try.func50, Try.ntmps50
  go_wp2_with fail
  refine Agg.calls_at fun w1 hw1 => ?_
  have hb : Below w.heap.size w w1 := by rw [hw1.out]; repeat (first | exact Below.refl _ _ | refine Agg.bel_drew ?_ | refine Agg.bel_alloc ?_ _)
  replace HB := Lib.hid (HB.out.trans (hb.mono HB.out.size))
  replace HV := Lib.hid (HV.out.keep hb)
  clear hb
  have HG : Hid (Blk w1 w.heap.size 26 [.int .i64 0, .int .i64 0]) := by show Blk _ _ _ _; rw [hw1.out]; exact Blk.new w 26 #[.int .i64 0, .int .i64 0]
  clear hw1
  refine (together_meetF l _ w1 HV.out HN.out r er HR.out).mono ?_
  rintro e w2 ⟨rfl, hb⟩
  replace HB := Lib.hid (HB.out.trans (hb.mono HB.out.size))
  replace HV := Lib.hid (HV.out.keep hb)
  replace HG := Lib.hid (HG.out.keep hb)
  clear hb
  have e0 := HG.out.cell 0
  have e1 := HG.out.cell 1
  have f0 := HG.out.frozen 0
  have f1 := HG.out.frozen 1
  have hlt := HG.out.lt
  simp only [List.getElem?_cons_zero, List.getElem?_cons_succ] at e0 e1
  go_wp2_with fail
  exact bodyPost_ret (v := .tuple #[.agg #[.int .i64 r.1, .int .i64 r.2], .int .i64 er]) (by simp [results, Try.results50, go_sem, e0, e1]) rfl ⟨rfl, (HB.out.setCell (Nat.le_refl _) _).setCell (Nat.le_refl _) _⟩
theorem spans_two (w : World) (a b c d : Int) (g : Nat) (hg : g = w.heap.size) : Spans (w.alloc (.cells #[.int .i64 a, .int .i64 b, .int .i64 c, .int .i64 d] 26)) (.slice (some ⟨g, 0, none⟩) 2 2) [(a, b), (c, d)] :=
  sl_newAt' w #[.int .i64 a, .int .i64 b, .int .i64 c, .int .i64 d] _ 2 2 rfl (by decide) g hg
theorem spans_one (w : World) (a b : Int) (g : Nat) (hg : g = w.heap.size) : Spans (w.alloc (.cells #[.int .i64 a, .int .i64 b] 26)) (.slice (some ⟨g, 0, none⟩) 1 1) [(a, b)] :=
  sl_newAt' w #[.int .i64 a, .int .i64 b] _ 1 2 rfl (by decide) g hg
def withinB (a b : Sp) : Bool := decide (a.1 ≤ a.2) && decide (b.1 ≤ b.2) && decide (b.1 ≤ a.1) && decide (a.2 ≤ b.2)
def I64 (z : Int) : Prop := -9223372036854775808 ≤ z ∧ z ≤ 9223372036854775807
def widthI (s : Sp) : Int := if s.2 < s.1 then 0 else s.2 - s.1
theorem width_any (a b : Int) (w : World) (ha : I64 a) (hb : I64 b) :
    Calls Try.prog 43 #[.agg #[.int .i64 a, .int .i64 b]] w fun e w' => e = .returned (.int .u64 (widthI (a, b))) ∧ Below w.heap.size w w' := by
  have hkey : ¬ b < a → IntKind.u64.wrap (IntKind.u64.wrap b - IntKind.u64.wrap a) = widthI (a, b) := by
    intro h
    unfold I64 at ha hb
    rw [widthI, if_neg h]
    simp [IntKind.wrap, IntKind.bits, IntKind.signed]; omega
  clear ha hb
  have HK := Lib.hid hkey
  clear hkey
  by_cases h : b < a
  all_goals
    first
      | have HC : Hid (ckE (a, b) = 140) := if_pos h
      | have HC : Hid (ckE (a, b) = 0) := if_neg h
    have HE := Lib.hid h
    clear h
    have HB := Lib.hid (Below.refl w.heap.size w)
    go_enter Try.func43, Try.ntmps43
    go_wp2_with fail
    refine Agg.calls_at fun w1 hw1 => ?_
    have hb : Below w.heap.size w w1 := by rw [hw1.out]; repeat (first | exact Below.refl _ _ | refine Agg.bel_drew ?_ | refine Agg.bel_alloc ?_ _)
    replace HB := Lib.hid (HB.out.trans (hb.mono HB.out.size))
    clear hb
    have HT : Hid (Blk w1 w.heap.size 26 [.int .i64 a, .int .i64 b]) := by show Blk _ _ _ _; rw [hw1.out]; exact Blk.new w 26 #[.int .i64 a, .int .i64 b]
    clear hw1
    refine (check_any _ _ w1).mono ?_
    rintro e w2 ⟨rfl, hb⟩
    replace HB := Lib.hid (HB.out.trans (hb.mono HB.out.size))
    replace HT := Lib.hid (HT.out.keep hb)
    clear hb
    rw [HC.out]
    have d0 := HT.out.cell 0
    have d1 := HT.out.cell 1
    simp only [List.getElem?_cons_zero, List.getElem?_cons_succ] at d0 d1
    go_wp2_with fail
    go_ret
    refine ⟨?_, HB.out⟩
    first
      | (rw [← HK.out HE.out]; rfl)
      | (rw [widthI, if_pos HE.out]; rfl)
def midI (s : Sp) : Int := s.1 + (s.2 - s.1) / 2
theorem middle_any (a b : Int) (w : World) (ha : I64 a) (hb : I64 b) (m er : Int) (hm : (if b < a then ((0 : Int), (140 : Int)) else (midI (a, b), 0)) = (m, er)) :
    Calls Try.prog 30 #[.agg #[.int .i64 a, .int .i64 b]] w fun e w' => e = .returned (.tuple #[.int .i64 m, .int .i64 er]) ∧ Below w.heap.size w w' := by
  have HA := Lib.hid ha
  have HBB := Lib.hid hb
  by_cases h : b < a
  · have HC : Hid (ckE (a, b) = 140) := if_pos h
    rw [if_pos h] at hm
    simp only [Prod.mk.injEq] at hm
    obtain ⟨rfl, rfl⟩ := hm
    clear ha hb h
    have HB := Lib.hid (Below.refl w.heap.size w)
    go_enter Try.func30, Try.ntmps30
    go_wp2_with fail
    refine Agg.calls_at fun w1 hw1 => ?_
    have hb : Below w.heap.size w w1 := by rw [hw1.out]; repeat (first | exact Below.refl _ _ | refine Agg.bel_drew ?_ | refine Agg.bel_alloc ?_ _)
    replace HB := Lib.hid (HB.out.trans (hb.mono HB.out.size))
    clear hb
    refine (check_any _ _ w1).mono ?_
    rintro e w2 ⟨rfl, hb⟩
    replace HB := Lib.hid (HB.out.trans (hb.mono HB.out.size))
    clear hb
    rw [HC.out]
    go_wp2_with fail
    go_ret2
    exact ⟨rfl, HB.out⟩
  · have HC : Hid (ckE (a, b) = 0) := if_neg h
    rw [if_neg h] at hm
    simp only [Prod.mk.injEq] at hm
    obtain ⟨rfl, rfl⟩ := hm
    have hw : Hid (widthI (a, b) = b - a) := if_neg h
    have hk : IntKind.i64.wrap (IntKind.u64.wrap (IntKind.u64.wrap a + (b - a) / 2)) = midI (a, b) := by
      unfold I64 at ha hb
      unfold midI
      simp [IntKind.wrap, IntKind.bits, IntKind.signed]; omega
    have HK := Lib.hid hk
    have HQ : Hid (IntKind.u64.wrap ((b - a).tdiv 2) = (b - a) / 2) := by
      show _ = _
      rw [Int.tdiv_eq_ediv_of_nonneg (by omega)]
      unfold I64 at ha hb
      simp [IntKind.wrap, IntKind.bits, IntKind.signed]; omega
    have h0 : 0 ≤ b - a := by omega
    clear ha hb h hk
    have HB := Lib.hid (Below.refl w.heap.size w)
    go_enter Try.func30, Try.ntmps30
    go_wp2_with fail
    refine Agg.calls_at fun w1 hw1 => ?_
    have hb : Below w.heap.size w w1 := by rw [hw1.out]; repeat (first | exact Below.refl _ _ | refine Agg.bel_drew ?_ | refine Agg.bel_alloc ?_ _)
    replace HB := Lib.hid (HB.out.trans (hb.mono HB.out.size))
    clear hb
    have HT : Hid (Blk w1 w.heap.size 26 [.int .i64 a, .int .i64 b]) := by show Blk _ _ _ _; rw [hw1.out]; exact Blk.new w 26 #[.int .i64 a, .int .i64 b]
    clear hw1
    refine (check_any _ _ w1).mono ?_
    rintro e w2 ⟨rfl, hb⟩
    replace HB := Lib.hid (HB.out.trans (hb.mono HB.out.size))
    replace HT := Lib.hid (HT.out.keep hb)
    clear hb
    rw [HC.out]
    have d0 := HT.out.cell 0
    have d1 := HT.out.cell 1
    simp only [List.getElem?_cons_zero, List.getElem?_cons_succ] at d0 d1
    go_wp2_with fail
    refine Agg.chainR 10 (by kernel_rfl) (by kernel_rfl) ?_
    simp only [List.take_succ_cons, List.take_zero, List.drop_succ_cons, List.drop_zero]
    repeat (first | refine Agg.chMove rfl rfl rfl rfl ?_ | refine Agg.chAssign rfl rfl rfl rfl ?_ | refine Agg.chExtract rfl rfl rfl rfl rfl ?_ | refine Agg.chFA fo_Span_0 rfl rfl rfl rfl ?_ | refine Agg.chFA fo_Span_1 rfl rfl rfl rfl ?_ | refine Agg.chLoadB HT.out (by decide +kernel) rfl rfl (by rfl) rfl rfl ?_ | refine Agg.chRowB 2 HT.out rfl (by decide +kernel) rfl rfl rfl rfl ?_ | refine Agg.chNot rfl rfl rfl rfl ?_ | refine Agg.chPick rfl rfl rfl rfl rfl ?_ | refine Agg.chSkip rfl rfl ?_ | refine Agg.chEq true (by first | assumption | decide | (simp; omega)) rfl rfl rfl rfl rfl ?_ | refine Agg.chEq false (by first | assumption | decide | (simp; omega)) rfl rfl rfl rfl rfl ?_ | refine Agg.chNe true (by first | assumption | decide | (simp; omega)) rfl rfl rfl rfl rfl ?_ | refine Agg.chNe false (by first | assumption | decide | (simp; omega)) rfl rfl rfl rfl rfl ?_ | refine Agg.chLt true (by first | assumption | decide | (simp; omega)) rfl rfl rfl rfl rfl ?_ | refine Agg.chLt false (by first | assumption | decide | (simp; omega)) rfl rfl rfl rfl rfl ?_ | refine Agg.chLe true (by first | assumption | decide | (simp; omega)) rfl rfl rfl rfl rfl ?_ | refine Agg.chLe false (by first | assumption | decide | (simp; omega)) rfl rfl rfl rfl rfl ?_ | refine Agg.chGt true (by first | assumption | decide | (simp; omega)) rfl rfl rfl rfl rfl ?_ | refine Agg.chGt false (by first | assumption | decide | (simp; omega)) rfl rfl rfl rfl rfl ?_ | refine Agg.chGe true (by first | assumption | decide | (simp; omega)) rfl rfl rfl rfl rfl ?_ | refine Agg.chGe false (by first | assumption | decide | (simp; omega)) rfl rfl rfl rfl rfl ?_ | refine Agg.chAr64 rfl rfl rfl rfl (by omega) (by omega) rfl rfl ?_ | refine Agg.chInt _ rfl (by kernel_rfl) Try.underlying80 rfl rfl rfl rfl ?_ | refine Agg.chInt _ rfl (by kernel_rfl) Try.underlying2 rfl rfl rfl rfl ?_)
    refine Agg.chCall (v := .int .u64 (widthI (a, b))) Try.func43 rfl (by kernel_rfl) rfl rfl rfl rfl (fun W _ => width_any a b W HA.out HBB.out) ?_
    rw [hw.out]
    refine Agg.chQuo ((b - a) / 2) rfl rfl rfl (by decide) HQ.out rfl rfl ?_
    refine Agg.chAr rfl rfl rfl rfl rfl rfl ?_
    refine Agg.chInt (midI (a, b)) HK.out (by kernel_rfl) Try.underlying2 rfl rfl rfl rfl ?_
    repeat (first | refine Agg.chMove rfl rfl rfl rfl ?_ | refine Agg.chAssign rfl rfl rfl rfl ?_ | refine Agg.chExtract rfl rfl rfl rfl rfl ?_ | refine Agg.chFA fo_Span_0 rfl rfl rfl rfl ?_ | refine Agg.chFA fo_Span_1 rfl rfl rfl rfl ?_ | refine Agg.chNot rfl rfl rfl rfl ?_ | refine Agg.chPick rfl rfl rfl rfl rfl ?_ | refine Agg.chSkip rfl rfl ?_)
    refine Agg.chEnd ?_
    intro vs w3 hb _
    refine Agg.wpNil ?_
    simp only [List.reverse, List.reverseAux, Agg.fill, List.set_cons_succ, List.set_cons_zero]
    replace HB := Lib.hid (HB.out.trans (hb.mono HB.out.size))
    replace HT := Lib.hid (HT.out.keep hb)
    clear hb
    go_wp2_with fail
    go_ret2
    exact ⟨rfl, HB.out⟩
end Go.Proofs.Ytchpkgneloiidaa
end
section
/-
  A REGION THAT DRAWS ITS ORDER, some of whose operations only read what no other touches (they are taken first), the others in one forced order (they may write). Over any program.
-/
namespace Agg
open Go Go.RowKit
section
variable {P : Program} {Q : Exit → Act → World → Prop} {S : World → Prop} {l : List Oper} {l0 : List Value} {ds : List Deferred} {w : World} {o : Oper} {n i d : Nat} {bs : List Bool}

def Held (P : Program) (l : List Oper) (Q : Exit → Act → World → Prop) (S : World → Prop) (n : Nat) (bs : List Bool) (l0 : List Value) (ds : List Deferred) (w : World) : Prop :=
  wpAnyH P .any l.toArray (NoP Q) S n bs.toArray ⟨l0.toArray, ds⟩ w
theorem heldBegin {id : Nat} (n : Nat) (hm : P.follows .mixedOrders = true) (hn : l.length = n) (h : Held P l Q S n (List.replicate n false) l0 ds w.drew) : (Code.region id l.toArray true).wp P Q ⟨l0.toArray, ds⟩ w := by
  refine wp_mono (Q := NoP Q) ?_ (fun e a w q => by cases e <;> first | exact q | exact q.elim)
  refine wp_region_held (S := S) hm ?_
  have e : l.toArray.size = n := by simpa using hn
  rw [e]
  have e2 : (Array.replicate n false) = (List.replicate n false).toArray := by simp
  rw [e2]
  exact h
/-- a reading one is taken first -/
theorem heldTake (hc : (Region.noSelect l.toArray && Region.free .any l.toArray bs.toArray i && (Region.ready .any l.toArray bs.toArray).contains i) = true) (hi : l[i]? = some o) (hg : o.guard = none) (hd : o.dst = some d) {v : Value}
    (hr : ∀ w, S w → (execOp (ev l0) o).run P w = .ok (.value v) w) (hS : S w) (h : Held P l Q S n (bs.set i true) (l0.set d v) ds w) : Held P l Q S (n + 1) bs l0 ds w := by
  simp only [Bool.and_eq_true] at hc
  refine wpAnyH_take (oi := o) (v := v) (by simpa using hi) hc.1.1 hc.1.2 hc.2 (fun c a w h => h) (.inl ⟨wn hg, fun w hw => ?_⟩) hS ?_
  · rw [ev_eq]; exact hr w hw
  · rw [hd, put_eq]
    have : bs.toArray.setIfInBounds i true = (bs.set i true).toArray := by simp
    rw [this]; exact h
/-- the only one that may come up -/
theorem heldOne (hr : Region.ready .any l.toArray bs.toArray = [i]) (hi : l[i]? = some o) (hg : o.guard = none) (hd : o.dst = some d) {v : Value} {w' : World} (hrun : (execOp (ev l0) o).run P w = .ok (.value v) w') (hS : S w')
    (h : Held P l Q S n (bs.set i true) (l0.set d v) ds w') : Held P l Q S (n + 1) bs l0 ds w := by
  refine wpAnyH_all hr (by simp) fun j hj => ?_
  obtain rfl : j = i := by simpa using hj
  unfold wpOp
  have hi' : l.toArray[j]? = some o := by simpa using hi
  simp only [hi']
  rw [if_pos (wn hg)]
  refine .inl ?_
  unfold Oper.wp
  rw [ev_eq, hrun]
  refine ⟨hS, ?_⟩
  rw [hd, put_eq]
  have : bs.toArray.setIfInBounds j true = (bs.set j true).toArray := by simp
  rw [this]; exact h
theorem heldCall {f : FuncId} {fn : Func} (hf : P.funcs[f]? = some fn) (hbody : fn.body.isNone = false) (hname : (fn.name == "runtime.NumGoroutine") = false) {args : List Operand} {ts : Array TypeId}
    (hr : Region.ready .any l.toArray bs.toArray = [i]) (hi : l[i]? = some o) (hg : o.guard = none) (hd : o.dst = some d) (ho : o.op = .call { callee := .value (.func f), args := args.toArray, argTypes := ts })
    (hc : Calls P f (args.map (ev l0)).toArray w fun e w' => ∃ v, e = .returned v ∧ S w' ∧ Held P l Q S n (bs.set i true) (l0.set d v) ds w') : Held P l Q S (n + 1) bs l0 ds w := by
  refine wpAnyH_all hr (by simp) fun j hj => ?_
  obtain rfl : j = i := by simpa using hj
  unfold wpOp
  have hi' : l.toArray[j]? = some o := by simpa using hi
  simp only [hi']
  rw [if_pos (wn hg)]
  refine .inl ?_
  have hrun : (execOp (ev l0) o).run P w = .ok (.enter f (args.map (ev l0)).toArray) w := by
    have n1 : ¬ fn.name = "runtime.NumGoroutine" := by simpa using hname
    have n2 : ¬ fn.body = none := by intro e; rw [e] at hbody; cases hbody
    simp [execOp, ho, resolve, invoke, callFunc, hf, n1, n2, Deferred.ofValue, ev]
  unfold Oper.wp
  rw [ev_eq, hrun]
  refine hc.mono ?_
  rintro e w' ⟨v, rfl, hS, h⟩
  refine ⟨hS, ?_⟩
  rw [hd, put_eq]
  have : bs.toArray.setIfInBounds j true = (bs.set j true).toArray := by simp
  rw [this]; exact h
theorem heldDone (hr : Region.ready .any l.toArray bs.toArray = []) (h : Q .normal ⟨l0.toArray, ds⟩ w) : Held P l Q S n bs l0 ds w := wpAnyH_done (Q := NoP Q) hr (show NoP Q .normal _ _ from h) n
/-- append, the only one that may come up -/
theorem heldAppend {t e : TypeId} {size bytes : Nat} {z : Value} (T : TI P t e size bytes z) (s x : Operand)
    (hr : Region.ready .any l.toArray bs.toArray = [i]) (hi : l[i]? = some o) (hg : o.guard = none) (hd : o.dst = some d) (ho : o.op = .call { callee := .builtin .append, args := #[s, x], argTypes := #[t, t] })
    (base : Nat) {v : Value} {m : Nat} {xs : List Value} (hs : ev l0 s = v) (hown : w.ownsRow base e size v m xs) {xv : Value} {k : Nat} {news : List Value} (hx : ev l0 x = xv) (hsl : SlR w xv size k news)
    (h1 : ∀ u ∈ news, u.oneCell' = true) (h63 : m + k ≤ maxLen) (hbytes : (m + k) * bytes ≤ 140737488355328) (hbase : base ≤ w.heap.size)
    (h : ∀ v' w', w'.ownsRow base e size v' (m + k) (xs ++ news) → w.grownBy w' v.ownBlock → (v'.ownBlock = v.ownBlock ∨ v'.ownBlock = some w.heap.size) → S w' ∧ Held P l Q S n (bs.set i true) (l0.set d v') ds w') : Held P l Q S (n + 1) bs l0 ds w := by
  obtain ⟨v', w', hrun, h2, h3, _⟩ := run_append_sl T o.type w base hown hsl h1 h63 hbytes hbase
  have := h v' w' h2 h3 (append_where T o.type w base hown hsl h1 h63 hbytes hrun)
  exact heldOne hr hi hg hd (by simp [execOp, ho, resolve, hs, hx, invoke, builtin, hrun]) this.1 this.2
/-- a move or an assign -/
theorem run_move {x : Operand} {v : Value} (ho : o.op = .move x) (hx : ev l0 x = v) : (execOp (ev l0) o).run P w = .ok (.value v) w := by simp only [execOp, ho, hx, Sem.run_pure]
theorem run_assign {x : Operand} {v : Value} (ho : o.op = .assign x) (hx : ev l0 x = v) : (execOp (ev l0) o).run P w = .ok (.value v) w := by simp only [execOp, ho, hx, Sem.run_pure]
theorem run_fa {t : TypeId} {x : Operand} {k b f off : Nat} (hf : fieldOff P t k = some off) (ho : o.op = .fieldAddr t x k) (hx : ev l0 x = .pointer (some ⟨b, f, none⟩)) : (execOp (ev l0) o).run P w = .ok (.value (.pointer (some ⟨b, f + off, none⟩))) w := by
  simp only [execOp, ho, hx, run_fieldAt hf w, Sem.run_bind, Result.andThen_ok, Sem.run_pure]
theorem run_ia {t e : TypeId} {sz bytes : Nat} {z : Value} (T : TI P t e sz bytes z) {x y : Operand} {b f len cap : Nat} {k : IntKind} {i : Int} (h0 : 0 ≤ i) (hn : i < len) (ho : o.op = .indexAddr t x y) (hx : ev l0 x = .slice (some ⟨b, f, none⟩) len cap) (hy : ev l0 y = .int k i) :
    (execOp (ev l0) o).run P w = .ok (.value (.pointer (some ⟨b, f + i.toNat * sz, none⟩))) w := by
  obtain ⟨j, hj, _, hs, _⟩ := T.info
  have := run_index_sl T.ht (by rw [hj]; exact congrArg some hs) ⟨b, f, none⟩ len cap k i h0 hn w
  rw [add_none] at this
  simp only [execOp, ho, hx, hy, this, Sem.run_bind, Result.andThen_ok, Sem.run_pure]
theorem run_ld {t : TypeId} {y : Operand} {x : Addr} {v : Value} (ht : oneT P t = true) (ho : o.op = .load t y) (hy : ev l0 y = .pointer (some x)) (hc : w.cell? x = some v) : (execOp (ev l0) o).run P w = .ok (.value v) w := by
  simp only [execOp, ho, hy, Sem.run_bind, run_load_one ht hc, Result.andThen_ok, Sem.run_pure]
theorem run_len {t e : TypeId} (ht : P.underlying t = some (.slice e)) {x : Operand} {y : Option Addr} {m c : Nat} (ho : o.op = .call { callee := .builtin .len, args := #[x], argTypes := #[t] }) (hx : ev l0 x = .slice y m c) : (execOp (ev l0) o).run P w = .ok (.value (.int .i64 (m : Int))) w := by
  simp [execOp, ho, resolve, hx, invoke, builtin, Builtin.len_, goInt, run_underlying ht]
/-- some cells of a block, as a row -/
theorem run_rowB (f m : Nat) (cs' : List Value) {b : Nat} {T : TypeId} {cs : List Value} (H : Blk w b T cs) (hm : (cs.drop f).take m = cs') (hl : cs'.length = m) {t : TypeId} {y : Operand} (ht : aggT P t m = true) (ho : o.op = .load t y) (hy : ev l0 y = .pointer (some ⟨b, f, none⟩)) :
    (execOp (ev l0) o).run P w = .ok (.value (.agg cs'.toArray)) w := by
  simp only [aggT, Bool.and_eq_true, beq_iff_eq] at ht
  obtain ⟨h1, h2⟩ := ht
  cases hu : P.underlying t with
  | none => simp [hu] at h1
  | some d =>
    have hone : oneOf d = false := by cases d <;> simp [hu] at h1 <;> rfl
    have := run_load_at t d cs' ⟨b, f, none⟩ w hu hone (by rw [h2, hl]) (fun i v hi => by
      rw [add_none, H.cell]
      rw [← hm, List.getElem?_take] at hi
      split at hi
      · rwa [List.getElem?_drop] at hi
      · cases hi)
    simp only [execOp, ho, hy, Sem.run_bind, this, Result.andThen_ok, Sem.run_pure]
theorem run_buildSl {t e : TypeId} {m : Nat} {ps : List (Nat × Operand)} (cs : Array Value) (ho : o.op = .buildSlice t m ps.toArray)
    (hr : (Instr.buildSlice t m (ps.map fun p => (p.1, ev l0 p.2)).toArray).run P w = .ok (.slice (some ⟨w.heap.size, 0, none⟩) m m) (w.alloc (.cells cs e))) :
    (execOp (ev l0) o).run P w = .ok (.value (.slice (some ⟨w.heap.size, 0, none⟩) m m)) (w.alloc (.cells cs e)) := by
  have h3 : (ps.toArray.map fun (i, x) => (i, ev l0 x)) = (ps.map fun p => (p.1, ev l0 p.2)).toArray := by rw [List.map_toArray]
  simp only [execOp, ho, h3, Sem.run_bind, hr, Result.andThen_ok, Sem.run_pure]
end
section
variable {n kk : Nat} {P : Program} {l rest : List Oper} {W : World} {l0 : List Value} {ds : List Deferred} {acc : List R} {o : Oper} {fin : List R → Prop}
/-- a row of two cells, wherever it lies -/
theorem chRow2 {u0 u1 : Value} {b f : Nat} {t : TypeId} {y : Operand} (ht : aggT P t 2 = true) (ho : o.op = .load t y) (hy : rd (l.take n) l0 kk acc o y = some (.pointer (some ⟨b, f, none⟩))) (hw : wants kk acc o = some true) (hk : gOk l o = true)
    (h0 : W.cell? ⟨b, f, none⟩ = some u0) (h1 : W.cell? ⟨b, f + 1, none⟩ = some u1)
    (h : ChainR n P l.toArray W ⟨l0.toArray, ds⟩ (kk + 1) ((.pure (.agg #[u0, u1])) :: acc) rest fin) : ChainR n P l.toArray W ⟨l0.toArray, ds⟩ kk acc (o :: rest) fin := by
  simp only [aggT, Bool.and_eq_true, beq_iff_eq] at ht
  obtain ⟨e1, e2⟩ := ht
  cases hu : P.underlying t with
  | none => simp [hu] at e1
  | some d =>
    refine chLoadRow d [u0, u1] ho hy hw hk hu ?_ e2 (fun i v hi => ?_) h
    · cases d <;> simp [hu] at e1 <;> rfl
    · rw [add_none]
      match i, hi with
      | 0, hi => simp only [List.getElem?_cons_zero, Option.some.injEq] at hi; subst hi; exact h0
      | 1, hi => simp only [List.getElem?_cons_succ, List.getElem?_cons_zero, Option.some.injEq] at hi; subst hi; exact h1
end
end Agg
end
