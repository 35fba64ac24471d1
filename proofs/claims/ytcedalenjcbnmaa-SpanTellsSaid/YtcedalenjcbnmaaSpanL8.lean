/-
  THE WALK OF LAYER 4's STATEMENT SpanAround.
-/
import Derived.Test.YtcedalenjcbnmaaSpanL6
import Derived.Test.YtcedalenjcbnmaaWdC
namespace Go.Proofs.Ytcedalenjcbnmaa
open Go.ChangeShapes Go.WideShapes Go.ChangeAt Go.RowKit Agg

theorem fits_both (z : Int) : fitB z = fits64 z := by
  unfold fitB fits64
  rw [decide_eq_decide]; unfold I64; omega
theorem around_plain (v far : Int) (hf : ¬ far < 0) : aroundR v far = if (ofR (v - far) (v + far)).2 = true then ((ofR (v - far) (v + far)).1, 0) else ((0, 0), 5) := by
  have hok : okAll [(v, v), (-far, far)] = true := by simp [okAll]; omega
  have h1 : sumE false [(v, v), (-far, far)] = v - far := by simp [sumE, endF]; omega
  have h2 : sumE true [(v, v), (-far, far)] = v + far := by simp [sumE, endF]
  rw [aroundR, if_neg hf, plusR, if_pos hok, h1, h2, fits_both, fits_both]
  unfold ofR
  cases (fits64 (v - far) && fits64 (v + far)) <;> rfl
set_option maxHeartbeats 4000000 in
set_option maxRecDepth 100000 in
theorem around_any2 (v far : Int) (hv : I64 v) (hf : I64 far) (w : World) :
    Calls Try.prog 7 #[.int .i64 v, .int .i64 far] w fun e w' => e = .returned (.bool true) ∧ Below w.heap.size w w' := by
  have HV := Lib.hid hv
  have HF := Lib.hid hf
  obtain ⟨⟨⟨s1, s2⟩, er⟩, hr⟩ : ∃ r, aroundR v far = r := ⟨_, rfl⟩
  obtain ⟨⟨⟨t1, t2⟩, ok⟩, ho⟩ : ∃ r, ofR (v - far) (v + far) = r := ⟨_, rfl⟩
  have HR := Lib.hid hr
  have HO := Lib.hid ho
  have HPL : Hid (¬ far < 0 → ((s1, s2), er) = if ok = true then ((t1, t2), 0) else ((0, 0), 5)) := by
    refine Lib.hid (fun h => ?_)
    rw [← hr, around_plain v far h, ho]
  have HBAD : Hid (far < 0 → ((s1, s2), er) = ((0, 0), 2)) := Lib.hid (fun h => by rw [← hr, aroundR, if_pos h])
  have HOK : Hid (ok = true → t1 = v - far ∧ t2 = v + far ∧ I64 t1 ∧ I64 t2) := by
    refine Lib.hid (fun h => ?_)
    unfold ofR at ho
    split at ho
    · rename_i hq
      simp only [Prod.mk.injEq] at ho
      obtain ⟨⟨rfl, rfl⟩, _⟩ := ho
      simp only [Bool.and_eq_true] at hq
      rw [← fits_both, ← fits_both, fitB_true, fitB_true] at hq
      exact ⟨rfl, rfl, hq.1, hq.2⟩
    · simp only [Prod.mk.injEq] at ho
      rw [h] at ho; cases ho.2
  clear hv hf hr ho
  have HB := Lib.hid (Below.refl w.heap.size w)
  go_enter Try.func7, Try.ntmps7
  go_wp2_with fail
  refine (wakes_any w).mono ?_
  rintro e w1 ⟨rfl, hb⟩
  replace HB := Lib.hid (HB.out.trans (hb.mono HB.out.size))
  clear hb
  go_wp2_with fail
  refine (Around_any v far w1 HV.out HF.out (s1, s2) er HR.out).mono ?_
  rintro e w2 ⟨rfl, hb⟩
  replace HB := Lib.hid (HB.out.trans (hb.mono HB.out.size))
  clear hb
  go_wp2_with fail
  refine Agg.calls_at fun w3 hw3 => ?_
  have hb : Below w2.heap.size w2 w3 := by rw [hw3.out]; repeat (first | exact Below.refl _ _ | refine Agg.bel_drew ?_ | refine Agg.bel_alloc ?_ _)
  replace HB := Lib.hid (HB.out.trans (hb.mono HB.out.size))
  clear hb
  have H5 : Hid (Blk w3 w2.heap.size 31 [.int .i64 s1, .int .i64 s2]) := by show Blk _ _ _ _; rw [hw3.out]; exact Blk.new w2 31 #[.int .i64 s1, .int .i64 s2]
  clear hw3
  generalize w2.heap.size = g5 at *
  have hra := rAround_any v far HV.out.1 HV.out.2 HF.out.1 HF.out.2 w3
  rw [HO.out] at hra
  refine hra.mono ?_
  rintro e w20 ⟨rfl, hb⟩
  clear hra
  have hb := hb
  replace HB := Lib.hid (HB.out.trans (hb.mono HB.out.size))
  replace H5 := Lib.hid (H5.out.keep hb)
  clear hb
  by_cases hn : far < 0
  · have hbad := HBAD.out hn
    simp only [Prod.mk.injEq] at hbad
    obtain ⟨⟨rfl, rfl⟩, rfl⟩ := hbad
    go_upto_region 6 with (fail)
    refine Agg.wp_at fun w21 hw21 => ?_
    have hb : Below w20.heap.size w20 w21 := by rw [hw21.out]; repeat (first | exact Below.refl _ _ | refine Agg.bel_drew ?_ | refine Agg.bel_alloc ?_ _)
    replace HB := Lib.hid (HB.out.trans (hb.mono HB.out.size))
    replace H5 := Lib.hid (H5.out.keep hb)
    clear hb
    clear hw21
    refine Agg.listR 8 (by kernel_rfl) ?_
    simp only [List.take_succ_cons, List.take_zero, List.drop_succ_cons, List.drop_zero]
    refine Agg.chRowB 2 H5.out rfl (by decide +kernel) rfl rfl rfl rfl ?_
    refine Agg.chBuild (v := .agg #[.int .i64 0, .int .i64 0]) rfl rfl rfl rfl (fun _ => by kernel_rfl) ?_
    refine Agg.chBin (v := .bool true) rfl rfl rfl rfl rfl (fun w => flatSp.gd .eql _ _ _ _ w) (fun w => flatSp.eql (fitsSp (by decide) (by decide)) (fitsSp (by decide) (by decide)) true (by simp) w) ?_
    refine Agg.chMove rfl rfl rfl rfl ?_
    refine Agg.chMove rfl rfl rfl rfl ?_
    refine Agg.chEq true (by decide) rfl rfl rfl rfl rfl ?_
    refine Agg.chPick rfl rfl rfl rfl rfl ?_
    refine Agg.chAssign rfl rfl rfl rfl ?_
    refine Agg.chEnd ?_
    intro vs w22 hb _
    show Exit.then _ _ Exit.normal _ _
    simp only [List.reverse, List.reverseAux, Agg.fill, List.set_cons_succ, List.set_cons_zero]
    replace HB := Lib.hid (HB.out.trans (hb.mono HB.out.size))
    replace H5 := Lib.hid (H5.out.keep hb)
    clear hb
    go_wp2_with fail
    go_ret
    exact ⟨rfl, HB.out⟩
  · have hpl := HPL.out (by omega)
    cases ok
    · simp only [Bool.false_eq_true, if_false, Prod.mk.injEq] at hpl
      obtain ⟨⟨rfl, rfl⟩, rfl⟩ := hpl
      go_upto_region 8 with (fail)
      refine Agg.wp_at fun w23 hw23 => ?_
      have hb : Below w20.heap.size w20 w23 := by rw [hw23.out]; repeat (first | exact Below.refl _ _ | refine Agg.bel_drew ?_ | refine Agg.bel_alloc ?_ _)
      replace HB := Lib.hid (HB.out.trans (hb.mono HB.out.size))
      replace H5 := Lib.hid (H5.out.keep hb)
      clear hb
      clear hw23
      refine Agg.listR 8 (by kernel_rfl) ?_
      simp only [List.take_succ_cons, List.take_zero, List.drop_succ_cons, List.drop_zero]
      refine Agg.chRowB 2 H5.out rfl (by decide +kernel) rfl rfl rfl rfl ?_
      refine Agg.chBuild (v := .agg #[.int .i64 0, .int .i64 0]) rfl rfl rfl rfl (fun _ => by kernel_rfl) ?_
      refine Agg.chBin (v := .bool true) rfl rfl rfl rfl rfl (fun w => flatSp.gd .eql _ _ _ _ w) (fun w => flatSp.eql (fitsSp (by decide) (by decide)) (fitsSp (by decide) (by decide)) true (by simp) w) ?_
      refine Agg.chMove rfl rfl rfl rfl ?_
      refine Agg.chMove rfl rfl rfl rfl ?_
      refine Agg.chEq true (by decide) rfl rfl rfl rfl rfl ?_
      refine Agg.chPick rfl rfl rfl rfl rfl ?_
      refine Agg.chAssign rfl rfl rfl rfl ?_
      refine Agg.chEnd ?_
      intro vs w24 hb _
      show Exit.then _ _ Exit.normal _ _
      simp only [List.reverse, List.reverseAux, Agg.fill, List.set_cons_succ, List.set_cons_zero]
      replace HB := Lib.hid (HB.out.trans (hb.mono HB.out.size))
      replace H5 := Lib.hid (H5.out.keep hb)
      clear hb
      go_wp2_with fail
      go_ret
      exact ⟨rfl, HB.out⟩
    · simp only [if_true, Prod.mk.injEq] at hpl
      obtain ⟨⟨rfl, rfl⟩, rfl⟩ := hpl
      obtain ⟨e1, e2, i1, i2⟩ := HOK.out rfl
      have HI := Lib.hid (And.intro i1 i2)
      have HW : Hid ((widthI (s1, s2) == IntKind.u64.wrap (2 * IntKind.u64.wrap far)) = true) := by
        have := HF.out
        unfold I64 at this i1 i2
        show _ = _
        rw [beq_iff_eq, widthI, IntKind.wrap_u64, IntKind.wrap_u64]
        simp only
        split <;> omega
      clear e1 e2 i1 i2
      go_upto_region 9 with (fail)
      refine Agg.wp_at fun w25 hw25 => ?_
      have hb : Below w20.heap.size w20 w25 := by rw [hw25.out]; repeat (first | exact Below.refl _ _ | refine Agg.bel_drew ?_ | refine Agg.bel_alloc ?_ _)
      replace HB := Lib.hid (HB.out.trans (hb.mono HB.out.size))
      replace H5 := Lib.hid (H5.out.keep hb)
      clear hb
      have H7 : Hid (Blk w25 w20.heap.size 31 [.int .i64 s1, .int .i64 s2]) := by show Blk _ _ _ _; rw [hw25.out]; exact Blk.new w20 31 #[.int .i64 s1, .int .i64 s2]
      clear hw25
      refine Agg.listR 16 (by kernel_rfl) ?_
      simp only [List.take_succ_cons, List.take_zero, List.drop_succ_cons, List.drop_zero]
      refine Agg.chMove rfl rfl rfl rfl ?_
      refine Agg.chEq true (by decide) rfl rfl rfl rfl rfl ?_
      refine Agg.chMove rfl rfl rfl rfl ?_
      refine Agg.chRowB 2 H5.out rfl (by decide +kernel) rfl rfl rfl rfl ?_
      refine Agg.chRowB 2 H7.out rfl (by decide +kernel) rfl rfl rfl rfl ?_
      refine Agg.chBin (v := .bool true) rfl rfl rfl rfl rfl (fun w => flatSp.gd .eql _ _ _ _ w) (fun w => flatSp.eql (fitsSp HI.out.1 HI.out.2) (fitsSp HI.out.1 HI.out.2) true (by simp) w) ?_
      refine Agg.chPick rfl rfl rfl rfl rfl ?_
      refine Agg.chMove rfl rfl rfl rfl ?_
      refine Agg.chRowB 2 H5.out rfl (by decide +kernel) rfl rfl rfl rfl ?_
      refine Agg.chCall Try.func17 rfl (by kernel_rfl) rfl rfl rfl rfl (fun W _ => width_any s1 s2 W HI.out.1 HI.out.2) ?_
      refine Agg.chMove rfl rfl rfl rfl ?_
      refine Agg.chInt _ rfl (by kernel_rfl) Try.underlying28 rfl rfl rfl rfl ?_
      refine Agg.chAr rfl rfl rfl rfl rfl rfl ?_
      refine Agg.chEq true HW.out rfl rfl rfl rfl rfl ?_
      refine Agg.chPick rfl rfl rfl rfl rfl ?_
      refine Agg.chAssign rfl rfl rfl rfl ?_
      refine Agg.chEnd ?_
      intro vs w26 hb _
      show Exit.then _ _ Exit.normal _ _
      simp only [List.reverse, List.reverseAux, Agg.fill, List.set_cons_succ, List.set_cons_zero]
      replace HB := Lib.hid (HB.out.trans (hb.mono HB.out.size))
      replace H5 := Lib.hid (H5.out.keep hb)
      clear hb
      go_wp2_with fail
      go_ret
      exact ⟨rfl, HB.out⟩
theorem SpanAround_walk (v far : Int) (w : World) (h0 : (Lit.int .i64 v).wf = true) (h1 : (Lit.int .i64 far).wf = true) :
    Calls Try.prog 7 #[.int .i64 v, .int .i64 far] w fun e w' => e = .returned (.bool true) ∧ Below w.heap.size w w' :=
  around_any2 v far (i64_wf h0) (i64_wf h1) w
end Go.Proofs.Ytcedalenjcbnmaa
