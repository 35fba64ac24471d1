/-
  APPEND to a fresh literal: append([]T{}, xs...), in a region that draws its order. Over any program.
-/
import Derived.Test.YtpligbfajnjklaaChain2
import Derived.Test.YtpligbfajnjklaaCopy
import Derived.Test.YtpligbfajnjklaaOwn
section
namespace Agg
open Go Go.RowKit
theorem run_append_fresh {P : Program} {t e : TypeId} {size bytes : Nat} {z : Value} (T : TI P t e size bytes z) (ty : TypeId) (w : World) {g b0 : Nat} (hb : b0 ≤ g) (hB : Blk w g e []) {xv : Value} {m : Nat} {news : List Value}
    (hsl : SlR w xv size m news) (h1 : ∀ u ∈ news, u.oneCell' = true) (h63 : m ≤ maxLen) (hbytes : m * bytes ≤ 140737488355328) :
    ∃ v' w', (Builtin.append_ #[t, t] ty #[.slice (some ⟨g, 0, none⟩) 0 0, xv]).run P w = .ok v' w' ∧ w'.ownsRow (Nat.min b0 w.heap.size) e size v' m news ∧ Below w.heap.size w w' := by
  have hown : w.ownsRow (Nat.min b0 w.heap.size) e size (.slice (some ⟨g, 0, none⟩) 0 0) 0 [] := by
    refine ⟨by simp, .inr ⟨g, 0, #[], rfl, Nat.le_trans (Nat.min_le_left _ _) hb, hB, Nat.le_refl _, by decide, by simp, by simp⟩⟩
  obtain ⟨i, hi, hz, hs, hb2⟩ := T.info
  rcases hsl.2 with ⟨rfl, rfl⟩ | ⟨x, cap, rfl, h3, h4, h5⟩
  · have hn : news = [] := List.eq_nil_of_length_eq_zero (by rw [hsl.1]; simp)
    subst hn
    exact ⟨_, w, run_append_owned_none w _ t ty e i size T.ht hi _ 0 [] hown, hown, Below.refl _ _⟩
  · rcases Nat.eq_zero_or_pos m with hm | hm
    · subst hm
      have hn : news = [] := List.eq_nil_of_length_eq_zero (by rw [hsl.1]; simp)
      subst hn
      refine ⟨_, w, ?_, hown, Below.refl _ _⟩
      simp [Builtin.append_, run_underlying T.ht, Go.sizeOf, typeInfo, hi, Builtin.lenOf, Builtin.firstCells, storeCells, loadCells, loadCellsFrom]
    · have hsz := T.hsz
      obtain ⟨v', w', hr, h2, hg, _⟩ := run_append_sl T ty w (Nat.min b0 w.heap.size) hown hsl h1 (by omega) (by simpa using hbytes) (Nat.min_le_right _ _)
      have hm' : m ≤ 9223372036854775807 := by unfold maxLen at h63; omega
      have hrun := run_append_grow (P := P) w t ty e i z T.ht hi hz ⟨g, 0, none⟩ 0 0 [] (by simp) (by simp) x m cap news (by rw [hs]; exact hsl.1) h5 (by omega) (by omega)
          (by rw [hb2]; exact growslice_fits (by omega) (by simpa using hbytes))
      rw [hrun] at hr
      cases hr
      refine ⟨_, _, hrun, by simpa using h2, ?_⟩
      exact ((Below.refl _ w).drew).alloc (Nat.le_refl _) _
/-- a call of a function of the program enters it -/
theorem enters {P : Program} {f : FuncId} {fn : Func} {c : Code} (hf : P.funcs[f]? = some fn) (hname : (fn.name == "runtime.NumGoroutine") = false) (hb : fn.body = some c) (args : Array Value) (w : World) : (callFunc f args).run P w = .ok (.enter f args) w := by
  have h1 : fn.name ≠ "runtime.NumGoroutine" := by simpa using hname
  simp [callFunc, hf, h1, hb, Go.mark]
theorem noP {Q : Exit → Act → World → Prop} {a : Act} {w : World} (h : Q .normal a w) : NoP Q .normal a w := h
/-- a row that was made: it lies beyond b0 -/
def OwnSl (b0 : Nat) (e : TypeId) (size m : Nat) (cs : List Value) (v : Value) (w : World) : Prop := w.ownsRow b0 e size v m cs
theorem OwnSl.stable (b0 : Nat) (e : TypeId) (size m : Nat) (cs : List Value) : Stable (OwnSl b0 e size m cs) := fun _ _ _ h hb => own_keep h hb
section
variable {n kk : Nat} {P : Program} {l rest : List Oper} {W : World} {l0 : List Value} {ds : List Deferred} {acc : List R} {o : Oper} {fin : List R → Prop}
/-- append([]T{}, xs...) -/
theorem chAppendNew {t e : TypeId} {size bytes : Nat} {z : Value} (T : TI P t e size bytes z) {ts : Nat} {x : Operand} (j : Nat) {xv : Value} (m : Nat) (news : List Value) (hsl : SlR W xv size m news)
    (h1 : ∀ u ∈ news, u.oneCell' = true) (h63 : m ≤ maxLen) (hbytes : m * bytes ≤ 140737488355328)
    (ho : o.op = .call { callee := .builtin .append, args := #[.tmp ts, x], argTypes := #[t, t] }) (hd : depL o j = true) (hj : look kk acc j = some (.op (NewSl W.heap.size e 0 []))) (ht : (l[j]?).map (·.dst) = some (some ts))
    (hx : rd (l.take n) l0 kk acc o x = some xv) (hw : wants kk acc o = some true) (hk : gOk l o = true)
    (h : ChainR n P l.toArray W ⟨l0.toArray, ds⟩ (kk + 1) ((.op (OwnSl W.heap.size e size m news)) :: acc) rest fin) : ChainR n P l.toArray W ⟨l0.toArray, ds⟩ kk acc (o :: rest) fin :=
  chRun (r := .op (OwnSl W.heap.size e size m news)) (by rw [ho]; rfl) hw hk (OwnSl.stable _ _ _ _ _) (fun a w hh => by
    obtain ⟨v, hv, ⟨g, rfl, hg0, hgB⟩⟩ := hh.op j ts hd hj ht
    have hx' := hh.rd hx
    obtain ⟨v', w', hr, ho', hb'⟩ := run_append_fresh T o.type w hg0 hgB (hsl.keep hh.below) h1 h63 hbytes
    refine ⟨v', w', ?_, ?_, hb'⟩
    · simp [execOp, ho, resolve, hv, hx', invoke, builtin, hr]
    · rw [show Nat.min W.heap.size w.heap.size = W.heap.size from Nat.min_eq_left hh.below.size] at ho'
      exact ho') h
end
end Agg
end
section
/-
  THE WALKS OF LAYER 7 (runs): take.
-/
namespace Go.Proofs.Ytpligbfajnjklaa
open Go.ChangeShapes Go.WideShapes Go.ChangeAt Go.RowKit Agg Pg Ru

theorem fo_fo_Row_0 : Agg.fieldOff Try.prog 76 0 = some 0 := by kernel_rfl
theorem fo_fo_Row_1 : Agg.fieldOff Try.prog 76 1 = some 3 := by kernel_rfl
theorem fo_fo_Open_0 : Agg.fieldOff Try.prog 74 0 = some 0 := by kernel_rfl
theorem build_run2 (t c : Int) (w : World) : (Instr.build 31 #[(0, .int .i64 t), (2, .int .i64 c)]).run Try.prog w = .ok (.agg #[.int .i64 t, .int .i64 0, .int .i64 c]) w := by simp [go_sem]
theorem build_run3 (t s c : Int) (w : World) : (Instr.build 31 #[(0, .int .i64 t), (1, .int .i64 s), (2, .int .i64 c)]).run Try.prog w = .ok (.agg #[.int .i64 t, .int .i64 s, .int .i64 c]) w := by
  simp [go_sem]
theorem lit_run (r : Rn) (w : World) : (Instr.buildSlice 24 1 #[(0, .agg (ruC r).toArray)]).run Try.prog w = .ok (.slice (some ⟨w.heap.size, 0, none⟩) 1 1) (w.alloc (.cells (ruC r).toArray 31)) := by
  have h := run_buildRows ti24 [ruC r] (by simp [ruC]) (by simp) (by simp) w
  simpa using h
/-- runs to which times come -/
def RowO (base : Nat) (w : World) (g : Nat) (s : Rn × List Rn) : Prop := ∃ v, base ≤ g ∧ Blk w g 76 [.int .i64 s.1.1, .int .i64 s.1.2.1, .int .i64 s.1.2.2, v] ∧ w.ownsRow base 31 3 v s.2.length (s.2.flatMap ruC)
theorem RowO.keep {base g : Nat} {w w' : World} {s : Rn × List Rn} (h : RowO base w g s) (hb : Below w.heap.size w w') : RowO base w' g s := by
  obtain ⟨v, h0, h1, h2⟩ := h
  exact ⟨v, h0, h1.keep hb, own_keep h2 hb⟩
theorem rowNe : 31 ≠ 76 := by decide
theorem rus_one (l : List Rn) : ∀ v ∈ l.flatMap ruC, v.oneCell' = true := by
  intro v hv
  obtain ⟨r, _, hr⟩ := List.mem_flatMap.1 hv
  simp only [ruC, List.mem_cons, List.not_mem_nil, or_false] at hr
  rcases hr with rfl | rfl | rfl <;> rfl
/-- what take wants of a row -/
def RowI (s : Rn × List Rn) : Prop := (s.1.2.2 = 0 ∨ sized s.1 = true) ∧ s.2.length ≤ 1000000
set_option maxHeartbeats 2000000 in
set_option maxRecDepth 100000 in
theorem take_any (s : Rn × List Rn) (t : Int) (base g : Nat) (w : World) (hi : RowI s) (ht : 0 ≤ t ∧ t ≤ maxT) (hbw : base ≤ w.heap.size) (h : RowO base w g s) :
    Calls Try.prog 50 #[.pointer (some ⟨g, 0, none⟩), .int .i64 t] w fun e w' => e = .returned (.tuple #[]) ∧ RowO base w' g (take s t) ∧ Below base w w' := by
  obtain ⟨⟨a, s, c⟩, D⟩ := s
  obtain ⟨v, hbg, h1, h2⟩ := h
  obtain ⟨vx, vc, rfl, _, _⟩ := (ownSl h2).shape
  obtain ⟨hi1, hi2⟩ := hi
  obtain ⟨t1, t2⟩ := ht
  unfold maxT at t2
  have H1 := Lib.hid h1
  have HD := Lib.hid h2
  simp only at hi1 hi2 H1 HD
  have HD2 := Lib.hid hi2
  obtain ⟨r, hr⟩ : ∃ r, take ((a, s, c), D) t = r := ⟨_, rfl⟩
  rw [hr]
  have hr2 := hr
  unfold take at hr2
  simp only at hr2
  have HR := Lib.hid hr2
  clear h1 h2 hr hr2 hi2
  have HB := Lib.hid (Below.refl w.heap.size w)
  go_enter Try.func50, Try.ntmps50
  by_cases c0 : c = 0
  · have hr := HR.out
    rw [if_pos c0] at hr
    subst hr
    subst c0
    clear HR
    have xH1_0 := H1.out.cell 0
    have xH1_1 := H1.out.cell 1
    have xH1_2 := H1.out.cell 2
    have xH1_3 := H1.out.cell 3
    have lH1 := H1.out.lt
    simp only [List.getElem?_cons_zero, List.getElem?_cons_succ] at xH1_0 xH1_1 xH1_2 xH1_3
    have h1 := H1.out
    go_wp2_with (refine Agg.gStoreMid 3 0 [.int .i64 t, .int .i64 0, .int .i64 1] h1 rfl rfl rfl rfl rfl (by decide +kernel) rfl (by simp) (by simp [Value.oneCell']) (fun w12 hb12 hg12 => ?_))
    simp only [spliced, List.take_succ_cons, List.take_zero, List.drop_succ_cons, List.drop_zero, List.length_cons, List.length_nil, List.cons_append, List.nil_append] at hb12
    have hD := HD.out.kept hg12 (own_apart HD.out H1.out rowNe)
    have hbel := (HB.out.mono hbw).trans (grown_below hg12 (Nat.le_trans hbw HB.out.size) (fun j hj => (by cases hj; exact hbg)))
    clear hg12
    go_end0
    exact ⟨rfl, ⟨_, hbg, hb12, hD⟩, hbel⟩
  · have hr := HR.out
    have hsz : sized (a, s, c) = true := hi1.elim (fun e => absurd e c0) id
    rw [if_neg c0] at hr
    clear HR
    have HSZ := Lib.hid hsz
    have hb6 := (sized_iff _).1 hsz
    simp only at hb6
    obtain ⟨z1, z2, z3, z4, z5, z6⟩ := hb6
    unfold maxT at z4 z6
    have c0b : (c == 0) = false := by simpa using c0
    clear hi1 hsz
    by_cases c1 : c = 1
    · rw [if_pos c1] at hr
      subst hr
      have c1b : (c == 1) = true := by simpa using c1
      clear c1
      have xH1_0 := H1.out.cell 0
      have xH1_1 := H1.out.cell 1
      have xH1_2 := H1.out.cell 2
      have xH1_3 := H1.out.cell 3
      have lH1 := H1.out.lt
      simp only [List.getElem?_cons_zero, List.getElem?_cons_succ] at xH1_0 xH1_1 xH1_2 xH1_3
      go_upto_region 5 with (fail)
      clear xH1_0 xH1_1 xH1_2 xH1_3 lH1
      refine Agg.chainR 19 (by kernel_rfl) (by kernel_rfl) ?_
      simp only [List.take_succ_cons, List.take_zero, List.drop_succ_cons, List.drop_zero]
      refine Agg.chMove rfl rfl rfl rfl ?_
      refine Agg.chMove rfl rfl rfl rfl ?_
      refine Agg.chNil rfl rfl rfl rfl ?_
      refine Agg.chFA fo_fo_Row_0 rfl rfl rfl rfl ?_
      refine Agg.chFA fo_fo_Open_0 rfl rfl rfl rfl ?_
      refine Agg.chFA fo_fo_Run_0 rfl rfl rfl rfl ?_
      refine Agg.chLoadB H1.out (by decide +kernel) rfl rfl (by rfl) rfl rfl ?_
      refine Agg.chMove rfl rfl rfl rfl ?_
      refine Agg.chMove rfl rfl rfl rfl ?_
      refine Agg.chNil rfl rfl rfl rfl ?_
      refine Agg.chFA fo_fo_Row_0 rfl rfl rfl rfl ?_
      refine Agg.chFA fo_fo_Open_0 rfl rfl rfl rfl ?_
      refine Agg.chFA fo_fo_Run_0 rfl rfl rfl rfl ?_
      refine Agg.chLoadB H1.out (by decide +kernel) rfl rfl (by rfl) rfl rfl ?_
      refine Agg.chAr64 rfl rfl rfl rfl (by omega) (by omega) rfl rfl ?_
      refine Agg.chBuild (v := .agg #[.int .i64 a, .int .i64 (t - a), .int .i64 2]) rfl rfl rfl rfl (fun W => build_run3 a (t - a) 2 W) ?_
      refine Agg.chNil rfl rfl rfl rfl ?_
      refine Agg.chFA fo_fo_Row_0 rfl rfl rfl rfl ?_
      refine Agg.chFA fo_fo_Open_0 rfl rfl rfl rfl ?_
      refine Agg.chEnd ?_
      intro vs w1 hb hf
      simp only [List.reverse, List.reverseAux, Agg.Facts] at hf
      obtain _ := hf
      simp only [List.reverse, List.reverseAux, Agg.fill, List.set_cons_succ, List.set_cons_zero]
      have h1 := H1.out.keep hb
      have hd := own_keep HD.out hb
      have hbb := HB.out.trans (hb.mono HB.out.size)
      go_wp2_with (refine Agg.gStoreMid 3 0 [.int .i64 a, .int .i64 (t - a), .int .i64 2] h1 rfl rfl rfl rfl rfl (by decide +kernel) rfl (by simp) (by simp [Value.oneCell']) (fun w12 hb12 hg12 => ?_))
      simp only [spliced, List.take_zero, List.drop_succ_cons, List.drop_zero, List.length_cons, List.length_nil, List.cons_append, List.nil_append] at hb12
      have hD := hd.kept hg12 (own_apart hd h1 rowNe)
      have hbel := (hbb.mono hbw).trans (grown_below hg12 (Nat.le_trans hbw hbb.size) (fun j hj => (by cases hj; exact hbg)))
      refine Agg.noP ?_
      go_wp2_with fail
      go_end0
      exact ⟨rfl, ⟨_, hbg, hb12, hD⟩, hbel⟩
    · rw [if_neg c1] at hr
      have c1b : (c == 1) = false := by simpa using c1
      obtain ⟨z, hz⟩ : ∃ z, last (a, s, c) = z := ⟨_, rfl⟩
      rw [hz] at hr
      have HZ := Lib.hid hz
      have hzb : -1 ≤ z ∧ z ≤ 72057594037927936 := by
        have h1 := sized_last HSZ.out
        simp only at h1
        rw [← hz]; simp only [last]; omega
      obtain ⟨hz1, hz2⟩ := hzb
      clear hz
      have HR := Lib.hid hr
      clear hr
      have xH1_0 := H1.out.cell 0
      have xH1_1 := H1.out.cell 1
      have xH1_2 := H1.out.cell 2
      have xH1_3 := H1.out.cell 3
      have lH1 := H1.out.lt
      simp only [List.getElem?_cons_zero, List.getElem?_cons_succ] at xH1_0 xH1_1 xH1_2 xH1_3
      go_upto_region 6 with (fail)
      clear xH1_0 xH1_1 xH1_2 xH1_3 lH1
      have h1r : ∀ i v, (ruC (a, s, c))[i]? = some v → w.cell? ⟨g, 0 + 0 + 0 + i, none⟩ = some v := fun i v hv => by
        rw [H1.out.cell]
        simp only [Nat.zero_add]
        match i, hv with
        | 0, hv => exact hv
        | 1, hv => exact hv
        | 2, hv => exact hv
      have H1R := Lib.hid h1r
      clear h1r
      refine Agg.chainR 16 (by kernel_rfl) (by kernel_rfl) ?_
      simp only [List.take_succ_cons, List.take_zero, List.drop_succ_cons, List.drop_zero]
      refine Agg.chMove rfl rfl rfl rfl ?_
      refine Agg.chMove rfl rfl rfl rfl ?_
      refine Agg.chNil rfl rfl rfl rfl ?_
      refine Agg.chFA fo_fo_Row_0 rfl rfl rfl rfl ?_
      refine Agg.chFA fo_fo_Open_0 rfl rfl rfl rfl ?_
      refine Agg.chRowAt 3 (ruC (a, s, c)) rfl (by decide +kernel) rfl rfl rfl rfl H1R.out ?_
      refine Agg.chCall Try.func48 rfl (by kernel_rfl) rfl rfl rfl rfl (fun W hb => by have h := last_any (a, s, c) HSZ.out W; rw [HZ.out] at h; exact h) ?_
      refine Agg.chAr64 rfl rfl rfl rfl (by omega) (by omega) rfl rfl ?_
      refine Agg.chMove rfl rfl rfl rfl ?_
      refine Agg.chNil rfl rfl rfl rfl ?_
      refine Agg.chFA fo_fo_Row_0 rfl rfl rfl rfl ?_
      refine Agg.chFA fo_fo_Open_0 rfl rfl rfl rfl ?_
      refine Agg.chFA fo_fo_Run_1 rfl rfl rfl rfl ?_
      refine Agg.chLoadB H1.out (by decide +kernel) rfl rfl (by rfl) rfl rfl ?_
      refine Agg.chCmp rfl rfl rfl rfl rfl rfl ?_
      refine Agg.chAssign rfl rfl rfl rfl ?_
      refine Agg.chEnd ?_
      intro vs w2 hb _
      refine Agg.wpNil ?_
      simp only [List.reverse, List.reverseAux, Agg.fill, List.set_cons_succ, List.set_cons_zero]
      replace HB := Lib.hid (HB.out.trans (hb.mono HB.out.size))
      replace H1 := Lib.hid (H1.out.keep hb)
      replace HD := Lib.hid (HD.out.keep hb)
      clear hb
      clear H1R
      by_cases heq : t - z = s
      · have hr := HR.out
        rw [if_pos heq] at hr
        subst hr
        have heqb : (t - z == s) = true := by simpa using heq
        clear heq
        have xH1_0 := H1.out.cell 0
        have xH1_1 := H1.out.cell 1
        have xH1_2 := H1.out.cell 2
        have xH1_3 := H1.out.cell 3
        have lH1 := H1.out.lt
        simp only [List.getElem?_cons_zero, List.getElem?_cons_succ] at xH1_0 xH1_1 xH1_2 xH1_3
        have h1 := H1.out
        go_wp2_with (refine Agg.gStoreCell 2 (.int .i64 (c + 1)) h1 rfl rfl rfl rfl rfl (by kernel_rfl) rfl (by simp) rfl (fun w12 hb12 hg12 => ?_))
        simp only [spliced, List.take_succ_cons, List.take_zero, List.drop_succ_cons, List.drop_zero, List.length_cons, List.length_nil, List.cons_append, List.nil_append] at hb12
        have hD := HD.out.kept hg12 (own_apart HD.out H1.out rowNe)
        have hbel := (HB.out.mono hbw).trans (grown_below hg12 (Nat.le_trans hbw HB.out.size) (fun j hj => (by cases hj; exact hbg)))
        go_end0
        exact ⟨rfl, ⟨_, hbg, hb12, hD⟩, hbel⟩
      · have hr := HR.out
        rw [if_neg heq] at hr
        subst hr
        have heqb : (t - z == s) = false := by simpa using heq
        have h1r : ∀ i v, (ruC (a, s, c))[i]? = some v → w2.cell? ⟨g, 0 + 0 + 0 + i, none⟩ = some v := fun i v hv => by
          rw [H1.out.cell]
          simp only [Nat.zero_add]
          match i, hv with
          | 0, hv => exact hv
          | 1, hv => exact hv
          | 2, hv => exact hv
        have H1R := Lib.hid h1r
        clear h1r
        go_upto_region 0 with (fail)
        refine Agg.chainR 11 (by kernel_rfl) (by kernel_rfl) ?_
        simp only [List.take_succ_cons, List.take_zero, List.drop_succ_cons, List.drop_zero]
        refine Agg.chMove rfl rfl rfl rfl ?_
        refine Agg.chMove rfl rfl rfl rfl ?_
        refine Agg.chNil rfl rfl rfl rfl ?_
        refine Agg.chFA fo_fo_Row_1 rfl rfl rfl rfl ?_
        refine Agg.chLoadB H1.out (by decide +kernel) rfl rfl (by rfl) rfl rfl ?_
        refine Agg.chMove rfl rfl rfl rfl ?_
        refine Agg.chNil rfl rfl rfl rfl ?_
        refine Agg.chFA fo_fo_Row_0 rfl rfl rfl rfl ?_
        refine Agg.chFA fo_fo_Open_0 rfl rfl rfl rfl ?_
        refine Agg.chRowAt 3 (ruC (a, s, c)) rfl (by decide +kernel) rfl rfl rfl rfl H1R.out ?_
        refine Agg.chBuildSlice (e := 31) (ruC (a, s, c)).toArray rfl rfl rfl rfl (fun W => lit_run (a, s, c) W) ?_
        refine Agg.chEnd ?_
        intro vs w3 hb hf
        simp only [List.reverse, List.reverseAux, Agg.Facts] at hf
        obtain ⟨⟨g9, hv9, hb9, hk9⟩, _⟩ := hf
        simp only [List.reverse, List.reverseAux, Agg.fill, List.set_cons_succ, List.set_cons_zero, hv9]
        clear hv9
        have hT3 := H1.out.keep hb
        have hC3 := own_keep HD.out hb
        have hsl : SlR w3 (.slice (some ⟨g9, 0, none⟩) 1 1) 3 1 (ruC (a, s, c)) := NewSl.sl (b0 := w2.heap.size) (e := 31) ⟨g9, rfl, hb9, hk9⟩ rfl (by unfold maxLen; decide)
        have HB3 := Lib.hid (HB.out.trans (hb.mono HB.out.size))
        clear hb9 hk9 hb
        refine Agg.append ti24 (.tmp 8) (.tmp 14) rfl rfl base (v := .slice vx D.length vc) rfl hC3 rfl hsl (by simp [ruC, Value.oneCell']) (by have := HD2.out; unfold maxLen; omega) (by have := HD2.out; omega) (by have := HB3.out.size; omega) ?_
        intro v' w4 hC4 hg4 _
        simp only [Act.put, List.setIfInBounds_toArray, List.set_cons_succ, List.set_cons_zero]
        have hne := own_apart hC3 hT3 rowNe
        have hT4 := blk_row hT3 hg4 hne
        have hB4 := (HB3.out.mono hbw).trans (grown_below hg4 (by have := HB3.out.size; omega) (own_block hC3))
        have hsz4 := hg4.size
        obtain ⟨vx2, vc2, rfl, _, _⟩ := (ownSl hC4).shape
        have HC4 := Lib.hid hC4
        have HB4 := Lib.hid hB4
        have HT4 := Lib.hid hT4
        clear hsl hg4 hC3 hC4 hB4 HB3 hT3 hne HD H1 HB
        go_wp2_with (refine Agg.gStoreCell 3 (.slice vx2 (D.length + 1) vc2) hT4 rfl rfl rfl rfl rfl (by kernel_rfl) rfl (by simp) rfl (fun w13 hb13 hg13 => ?_); clear hT4)
        refine Agg.noP ?_
        have hC13 := HC4.out.kept hg13 (own_apart HC4.out HT4.out rowNe)
        have hB13 := HB4.out.trans (grown_below hg13 (by have := HB4.out.size; omega) (fun j hj => (by cases hj; exact hbg)))
        simp only [spliced, List.take_succ_cons, List.take_zero, List.drop_succ_cons, List.drop_zero, List.drop_nil, List.length_cons, List.length_nil, List.cons_append, List.nil_append] at hb13
        have h13 := hb13
        go_wp2_with (refine Agg.gStoreMid 3 0 [.int .i64 t, .int .i64 0, .int .i64 1] h13 rfl rfl rfl rfl rfl (by decide +kernel) rfl (by simp) (by simp [Value.oneCell']) (fun w14 hb14 hg14 => ?_))
        simp only [spliced, List.take_succ_cons, List.take_zero, List.drop_succ_cons, List.drop_zero, List.length_cons, List.length_nil, List.cons_append, List.nil_append] at hb14
        have hD := hC13.kept hg14 (own_apart hC13 h13 rowNe)
        have hbel := hB13.trans (grown_below hg14 (Nat.le_trans hbw hB13.size) (fun j hj => (by cases hj; exact hbg)))
        go_end0
        have e1 : (D ++ [((a, s, c) : Rn)]).length = D.length + 1 := by simp
        have e2 : (D ++ [((a, s, c) : Rn)]).flatMap ruC = D.flatMap ruC ++ ruC (a, s, c) := by rw [List.flatMap_append]; simp
        refine ⟨rfl, ⟨.slice vx2 (D.length + 1) vc2, hbg, hb14, ?_⟩, hbel⟩
        show w14.ownsRow _ _ _ _ (D ++ [((a, s, c) : Rn)]).length ((D ++ [((a, s, c) : Rn)]).flatMap ruC)
        rw [e1, e2]; exact hD
end Go.Proofs.Ytpligbfajnjklaa
end
