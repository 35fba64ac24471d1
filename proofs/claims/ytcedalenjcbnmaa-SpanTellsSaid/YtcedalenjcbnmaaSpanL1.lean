/-
  THE WALK OF LAYER 4's STATEMENT SpanTight.
-/
import Derived.Test.YtcedalenjcbnmaaSpan8
import Derived.Test.YtcedalenjcbnmaaGood
import Derived.Deep.Cut
namespace Go.Proofs.Ytcedalenjcbnmaa
open Go.ChangeShapes Go.WideShapes Go.ChangeAt Go.RowKit Agg

theorem tog_two (F : Sp → Sp → Sp) (s t r : Sp) (hs : s.1 ≤ s.2) (ht : t.1 ≤ t.2) (hr : F s t = r) (h : r.1 ≤ r.2) : tog F [s, t] = (r, 0) := by
  have h1 : okAll [s, t] = true := by simp [okAll, hs, ht]
  have h2 : foldF F [s, t] = r := hr
  rw [tog, if_pos h1, if_neg (by simp), h2, if_pos h]
theorem i64_wf {z : Int} (h : (Lit.int .i64 z).wf = true) : I64 z := by
  simp only [Lit.wf, Bool.and_eq_true, decide_eq_true_eq, IntKind.min, IntKind.max, IntKind.signed, IntKind.bits] at h
  unfold I64; simpa using h
theorem good_span {w : World} {fuel : Nat} {c : Array Value} (h : Agg.Good Try.prog w fuel 31 c.toList) : ∃ a b : Int, c = #[.int .i64 a, .int .i64 b] ∧ I64 a ∧ I64 b := by
  have hf := good_fits fuel 3 31 [some .i64, some .i64] c.toList (by kernel_rfl) h
  obtain ⟨x, r, hc, ⟨a, rfl, ha⟩, hf2⟩ := hf.cons
  obtain ⟨y, r2, rfl, ⟨b, rfl, hb⟩, hf3⟩ := hf2.cons
  rw [hf3.nil] at hc
  exact ⟨a, b, Array.toList_inj.1 hc, i64_wf ha, i64_wf hb⟩

set_option maxHeartbeats 2000000 in
theorem tight_bad (a0 a1 b0 b1 : Int) (w : World) (ha0 : I64 a0) (ha1 : I64 a1) (hb0 : I64 b0) (hb1 : I64 b1) (h : a1 < a0 ∨ b1 < b0) :
    Calls Try.prog 4 #[.agg #[.int .i64 a0, .int .i64 a1], .agg #[.int .i64 b0, .int .i64 b1]] w fun e w' => e = .returned (.bool true) ∧ Below w.heap.size w w' := by
  have HL : Hid (tog leastF [(a0, a1), (b0, b1)] = ((0, 0), 140)) := by
    show _ = _
    rw [tog, if_neg]; simp [okAll]; omega
  have HP : Hid (plusR [(b0, b1), (a0, a1)] = ((0, 0), 140)) := by
    show _ = _
    rw [plusR, if_neg]; simp [okAll]; omega
  have HI : Hid (∀ s ∈ [(b0, b1), (a0, a1)], I64 s.1 ∧ I64 s.2) := by
    intro s hs
    simp only [List.mem_cons, List.not_mem_nil, or_false] at hs
    rcases hs with rfl | rfl
    · exact ⟨hb0, hb1⟩
    · exact ⟨ha0, ha1⟩
  clear ha0 ha1 hb0 hb1
  by_cases h1 : a1 < a0
  all_goals
    try have h2 : b1 < b0 := by omega
    clear h
    have HB := Lib.hid (Below.refl w.heap.size w)
    go_enter Try.func4, Try.ntmps4
    go_wp2_with fail
    refine Agg.calls_at fun w1 hw1 => ?_
    have hb : Below w.heap.size w w1 := by rw [hw1.out]; repeat (first | exact Below.refl _ _ | refine Agg.bel_drew ?_ | refine Agg.bel_alloc ?_ _)
    replace HB := Lib.hid (HB.out.trans (hb.mono HB.out.size))
    clear hb
    have HA : Hid (Blk w1 w.heap.size 31 [.int .i64 a0, .int .i64 a1]) := by show Blk _ _ _ _; rw [hw1.out]; exact (Blk.new w 31 #[.int .i64 a0, .int .i64 a1]).al _
    have HC : Hid (Blk w1 (w.heap.size + 1) 31 [.int .i64 b0, .int .i64 b1]) := by show Blk _ _ _ _; rw [hw1.out]; exact Blk.newAt (w.alloc _) 31 #[.int .i64 b0, .int .i64 b1] _ (by simp)
    clear hw1
    refine (wakes_any w1).mono ?_
    rintro e w2 ⟨rfl, hb⟩
    replace HB := Lib.hid (HB.out.trans (hb.mono HB.out.size))
    replace HA := Lib.hid (HA.out.keep hb)
    replace HC := Lib.hid (HC.out.keep hb)
    clear hb
    have xHA_0 := HA.out.cell 0
    have xHA_1 := HA.out.cell 1
    have lHA := HA.out.lt
    simp only [List.getElem?_cons_zero, List.getElem?_cons_succ] at xHA_0 xHA_1
    have xHC_0 := HC.out.cell 0
    have xHC_1 := HC.out.cell 1
    have lHC := HC.out.lt
    simp only [List.getElem?_cons_zero, List.getElem?_cons_succ] at xHC_0 xHC_1
    go_wp2_with fail
    clear xHA_0 xHA_1 lHA xHC_0 xHC_1 lHC
    refine (Least_two _ _ _ _ w2 _ rfl _ _ HL.out).mono ?_
    rintro e w3 ⟨rfl, hb⟩
    replace HB := Lib.hid (HB.out.trans (hb.mono HB.out.size))
    replace HA := Lib.hid (HA.out.keep hb)
    replace HC := Lib.hid (HC.out.keep hb)
    clear hb
    have xHA_0 := HA.out.cell 0
    have xHA_1 := HA.out.cell 1
    have lHA := HA.out.lt
    simp only [List.getElem?_cons_zero, List.getElem?_cons_succ] at xHA_0 xHA_1
    have xHC_0 := HC.out.cell 0
    have xHC_1 := HC.out.cell 1
    have lHC := HC.out.lt
    simp only [List.getElem?_cons_zero, List.getElem?_cons_succ] at xHC_0 xHC_1
    go_wp2_with fail
    refine Agg.calls_at2 fun w4 hw4 => ?_
    have hb : Below w3.heap.size w3 w4 := by rw [hw4.out]; repeat (first | exact Below.refl _ _ | refine Agg.bel_drew ?_ | refine Agg.bel_alloc ?_ _)
    replace HB := Lib.hid (HB.out.trans (hb.mono HB.out.size))
    replace HA := Lib.hid (HA.out.keep hb)
    replace HC := Lib.hid (HC.out.keep hb)
    clear hb
    clear xHA_0 xHA_1 lHA xHC_0 xHC_1 lHC
    refine (Plus_two _ _ _ _ w4 _ (by rw [hw4.out]; simp) HI.out _ _ HP.out).mono ?_
    rintro e w5 ⟨rfl, hb⟩
    replace HB := Lib.hid (HB.out.trans (hb.mono HB.out.size))
    replace HA := Lib.hid (HA.out.keep hb)
    replace HC := Lib.hid (HC.out.keep hb)
    clear hb
    go_wp2_with fail
    go_ret
    exact ⟨rfl, by first | exact HB.out | exact bel_alloc HB.out _⟩
set_option maxHeartbeats 2000000 in
set_option maxRecDepth 100000 in
theorem tight_ok (a0 a1 b0 b1 x1 y1 x2 y2 : Int) (w : World) (ha : a0 ≤ a1) (hb : b0 ≤ b1) (hx1 : min a0 b0 = x1) (hy1 : min a1 b1 = y1) (hx2 : max a0 b0 = x2) (hy2 : max a1 b1 = y2) :
    Calls Try.prog 4 #[.agg #[.int .i64 a0, .int .i64 a1], .agg #[.int .i64 b0, .int .i64 b1]] w fun e w' => e = .returned (.bool true) ∧ Below w.heap.size w w' := by
  have HL : Hid (tog leastF [(a0, a1), (b0, b1)] = ((x1, y1), 0)) := tog_two _ _ _ _ ha hb (Prod.ext hx1 hy1) (by simp only; omega)
  have HM : Hid (tog mostF [(a0, a1), (b0, b1)] = ((x2, y2), 0)) := tog_two _ _ _ _ ha hb (Prod.ext hx2 hy2) (by simp only; omega)
  have HJ : Hid (tog joinF [(a0, a1), (b0, b1)] = ((x1, y2), 0)) := tog_two _ _ _ _ ha hb (Prod.ext hx1 hy2) (by simp only; omega)
  have HJ2 : Hid (tog joinF [(x1, y1), (x2, y2)] = ((x1, y2), 0)) := tog_two _ _ _ _ (by simp only; omega) (by simp only; omega) (Prod.ext (by show min x1 x2 = x1; omega) (by show max y1 y2 = y2; omega)) (by simp only; omega)
  have HX1 := Lib.hid hx1
  have HY1 := Lib.hid hy1
  have HX2 := Lib.hid hx2
  have HY2 := Lib.hid hy2
  clear hx1 hy1 hx2 hy2
  have HB := Lib.hid (Below.refl w.heap.size w)
  go_enter Try.func4, Try.ntmps4
  go_wp2_with fail
  refine Agg.calls_at fun w1 hw1 => ?_
  have hb : Below w.heap.size w w1 := by rw [hw1.out]; repeat (first | exact Below.refl _ _ | refine Agg.bel_drew ?_ | refine Agg.bel_alloc ?_ _)
  replace HB := Lib.hid (HB.out.trans (hb.mono HB.out.size))
  clear hb
  have HA : Hid (Blk w1 w.heap.size 31 [.int .i64 a0, .int .i64 a1]) := by show Blk _ _ _ _; rw [hw1.out]; exact (Blk.new w 31 #[.int .i64 a0, .int .i64 a1]).al _
  have HC : Hid (Blk w1 (w.heap.size + 1) 31 [.int .i64 b0, .int .i64 b1]) := by show Blk _ _ _ _; rw [hw1.out]; exact Blk.newAt (w.alloc _) 31 #[.int .i64 b0, .int .i64 b1] _ (by simp)
  clear hw1
  refine (wakes_any w1).mono ?_
  rintro e w2 ⟨rfl, hb⟩
  replace HB := Lib.hid (HB.out.trans (hb.mono HB.out.size))
  replace HA := Lib.hid (HA.out.keep hb)
  replace HC := Lib.hid (HC.out.keep hb)
  clear hb
  have xHA_0 := HA.out.cell 0
  have xHA_1 := HA.out.cell 1
  have lHA := HA.out.lt
  simp only [List.getElem?_cons_zero, List.getElem?_cons_succ] at xHA_0 xHA_1
  have xHC_0 := HC.out.cell 0
  have xHC_1 := HC.out.cell 1
  have lHC := HC.out.lt
  simp only [List.getElem?_cons_zero, List.getElem?_cons_succ] at xHC_0 xHC_1
  go_wp2_with fail
  clear xHA_0 xHA_1 lHA xHC_0 xHC_1 lHC
  refine (Least_two _ _ _ _ w2 _ rfl _ _ HL.out).mono ?_
  rintro e w3 ⟨rfl, hb⟩
  replace HB := Lib.hid (HB.out.trans (hb.mono HB.out.size))
  replace HA := Lib.hid (HA.out.keep hb)
  replace HC := Lib.hid (HC.out.keep hb)
  clear hb
  have xHA_0 := HA.out.cell 0
  have xHA_1 := HA.out.cell 1
  have lHA := HA.out.lt
  simp only [List.getElem?_cons_zero, List.getElem?_cons_succ] at xHA_0 xHA_1
  have xHC_0 := HC.out.cell 0
  have xHC_1 := HC.out.cell 1
  have lHC := HC.out.lt
  simp only [List.getElem?_cons_zero, List.getElem?_cons_succ] at xHC_0 xHC_1
  go_wp2_with fail
  refine Agg.calls_at2 fun w4 hw4 => ?_
  have hb : Below w3.heap.size w3 w4 := by rw [hw4.out]; repeat (first | exact Below.refl _ _ | refine Agg.bel_drew ?_ | refine Agg.bel_alloc ?_ _)
  replace HB := Lib.hid (HB.out.trans (hb.mono HB.out.size))
  replace HA := Lib.hid (HA.out.keep hb)
  replace HC := Lib.hid (HC.out.keep hb)
  clear hb
  have H9 : Hid (Blk w4 w3.heap.size 31 [.int .i64 x1, .int .i64 y1]) := by show Blk _ _ _ _; rw [hw4.out]; exact Blk.new w3 31 #[.int .i64 x1, .int .i64 y1]
  clear xHA_0 xHA_1 lHA xHC_0 xHC_1 lHC
  refine (Most_two _ _ _ _ w4 _ (by rw [hw4.out]; simp) _ _ HM.out).mono ?_
  rintro e w5 ⟨rfl, hb⟩
  replace HB := Lib.hid (HB.out.trans (hb.mono HB.out.size))
  replace HA := Lib.hid (HA.out.keep hb)
  replace HC := Lib.hid (HC.out.keep hb)
  replace H9 := Lib.hid (H9.out.keep hb)
  clear hb
  have xHA_0 := HA.out.cell 0
  have xHA_1 := HA.out.cell 1
  have lHA := HA.out.lt
  simp only [List.getElem?_cons_zero, List.getElem?_cons_succ] at xHA_0 xHA_1
  have xHC_0 := HC.out.cell 0
  have xHC_1 := HC.out.cell 1
  have lHC := HC.out.lt
  simp only [List.getElem?_cons_zero, List.getElem?_cons_succ] at xHC_0 xHC_1
  go_wp2_with fail
  refine Agg.calls_at2 fun w6 hw6 => ?_
  have hb : Below w5.heap.size w5 w6 := by rw [hw6.out]; repeat (first | exact Below.refl _ _ | refine Agg.bel_drew ?_ | refine Agg.bel_alloc ?_ _)
  replace HB := Lib.hid (HB.out.trans (hb.mono HB.out.size))
  replace HA := Lib.hid (HA.out.keep hb)
  replace HC := Lib.hid (HC.out.keep hb)
  replace H9 := Lib.hid (H9.out.keep hb)
  clear hb
  have H11 : Hid (Blk w6 w5.heap.size 31 [.int .i64 x2, .int .i64 y2]) := by show Blk _ _ _ _; rw [hw6.out]; exact Blk.new w5 31 #[.int .i64 x2, .int .i64 y2]
  clear xHA_0 xHA_1 lHA xHC_0 xHC_1 lHC
  refine (Join_two _ _ _ _ w6 _ (by rw [hw6.out]; simp) _ _ HJ.out).mono ?_
  rintro e w7 ⟨rfl, hb⟩
  replace HB := Lib.hid (HB.out.trans (hb.mono HB.out.size))
  replace HA := Lib.hid (HA.out.keep hb)
  replace HC := Lib.hid (HC.out.keep hb)
  replace H9 := Lib.hid (H9.out.keep hb)
  replace H11 := Lib.hid (H11.out.keep hb)
  clear hb
  have xHA_0 := HA.out.cell 0
  have xHA_1 := HA.out.cell 1
  have lHA := HA.out.lt
  simp only [List.getElem?_cons_zero, List.getElem?_cons_succ] at xHA_0 xHA_1
  have xHC_0 := HC.out.cell 0
  have xHC_1 := HC.out.cell 1
  have lHC := HC.out.lt
  simp only [List.getElem?_cons_zero, List.getElem?_cons_succ] at xHC_0 xHC_1
  have xH9_0 := H9.out.cell 0
  have xH9_1 := H9.out.cell 1
  have lH9 := H9.out.lt
  simp only [List.getElem?_cons_zero, List.getElem?_cons_succ] at xH9_0 xH9_1
  have xH11_0 := H11.out.cell 0
  have xH11_1 := H11.out.cell 1
  have lH11 := H11.out.lt
  simp only [List.getElem?_cons_zero, List.getElem?_cons_succ] at xH11_0 xH11_1
  go_upto_region 12 with (fail)
  refine Agg.wp_at fun w8 hw8 => ?_
  have hb : Below w7.heap.size w7 w8 := by rw [hw8.out]; repeat (first | exact Below.refl _ _ | refine Agg.bel_drew ?_ | refine Agg.bel_alloc ?_ _)
  replace HB := Lib.hid (HB.out.trans (hb.mono HB.out.size))
  replace HA := Lib.hid (HA.out.keep hb)
  replace HC := Lib.hid (HC.out.keep hb)
  replace H9 := Lib.hid (H9.out.keep hb)
  replace H11 := Lib.hid (H11.out.keep hb)
  clear hb
  have H13 : Hid (Blk w8 w7.heap.size 31 [.int .i64 x1, .int .i64 y2]) := by show Blk _ _ _ _; rw [hw8.out]; exact Blk.new w7 31 #[.int .i64 x1, .int .i64 y2]
  clear hw8
  refine Agg.listR 38 (by kernel_rfl) ?_
  simp only [List.take_succ_cons, List.take_zero, List.drop_succ_cons, List.drop_zero]
  refine Agg.chFA fo_Span_0 rfl rfl rfl rfl ?_
  refine Agg.chLoadB H9.out (by decide +kernel) rfl rfl (by rfl) rfl rfl ?_
  refine Agg.chFA fo_Span_0 rfl rfl rfl rfl ?_
  refine Agg.chLoadB HA.out (by decide +kernel) rfl rfl (by rfl) rfl rfl ?_
  refine Agg.chFA fo_Span_0 rfl rfl rfl rfl ?_
  refine Agg.chLoadB HC.out (by decide +kernel) rfl rfl (by rfl) rfl rfl ?_
  refine Agg.chMin2 x1 HX1.out rfl rfl rfl rfl rfl ?_
  refine Agg.chNe false (by simp) rfl rfl rfl rfl rfl ?_
  refine Agg.chMove rfl rfl rfl rfl ?_
  refine Agg.chFA fo_Span_1 rfl rfl rfl rfl ?_
  refine Agg.chLoadB H9.out (by decide +kernel) rfl rfl (by rfl) rfl rfl ?_
  refine Agg.chFA fo_Span_1 rfl rfl rfl rfl ?_
  refine Agg.chLoadB HA.out (by decide +kernel) rfl rfl (by rfl) rfl rfl ?_
  refine Agg.chFA fo_Span_1 rfl rfl rfl rfl ?_
  refine Agg.chLoadB HC.out (by decide +kernel) rfl rfl (by rfl) rfl rfl ?_
  refine Agg.chMin2 y1 HY1.out rfl rfl rfl rfl rfl ?_
  refine Agg.chNe false (by simp) rfl rfl rfl rfl rfl ?_
  refine Agg.chPick rfl rfl rfl rfl rfl ?_
  refine Agg.chMove rfl rfl rfl rfl ?_
  refine Agg.chFA fo_Span_0 rfl rfl rfl rfl ?_
  refine Agg.chLoadB H11.out (by decide +kernel) rfl rfl (by rfl) rfl rfl ?_
  refine Agg.chFA fo_Span_0 rfl rfl rfl rfl ?_
  refine Agg.chLoadB HA.out (by decide +kernel) rfl rfl (by rfl) rfl rfl ?_
  refine Agg.chFA fo_Span_0 rfl rfl rfl rfl ?_
  refine Agg.chLoadB HC.out (by decide +kernel) rfl rfl (by rfl) rfl rfl ?_
  refine Agg.chMax2 x2 HX2.out rfl rfl rfl rfl rfl ?_
  refine Agg.chNe false (by simp) rfl rfl rfl rfl rfl ?_
  refine Agg.chPick rfl rfl rfl rfl rfl ?_
  refine Agg.chMove rfl rfl rfl rfl ?_
  refine Agg.chFA fo_Span_1 rfl rfl rfl rfl ?_
  refine Agg.chLoadB H11.out (by decide +kernel) rfl rfl (by rfl) rfl rfl ?_
  refine Agg.chFA fo_Span_1 rfl rfl rfl rfl ?_
  refine Agg.chLoadB HA.out (by decide +kernel) rfl rfl (by rfl) rfl rfl ?_
  refine Agg.chFA fo_Span_1 rfl rfl rfl rfl ?_
  refine Agg.chLoadB HC.out (by decide +kernel) rfl rfl (by rfl) rfl rfl ?_
  refine Agg.chMax2 y2 HY2.out rfl rfl rfl rfl rfl ?_
  refine Agg.chNe false (by simp) rfl rfl rfl rfl rfl ?_
  refine Agg.chPick rfl rfl rfl rfl rfl ?_
  refine Agg.chEnd ?_
  intro vs w9 hb _
  show Exit.then _ _ Exit.normal _ _
  simp only [List.reverse, List.reverseAux, Agg.fill, List.set_cons_succ, List.set_cons_zero]
  replace HB := Lib.hid (HB.out.trans (hb.mono HB.out.size))
  replace HA := Lib.hid (HA.out.keep hb)
  replace HC := Lib.hid (HC.out.keep hb)
  replace H9 := Lib.hid (H9.out.keep hb)
  replace H11 := Lib.hid (H11.out.keep hb)
  replace H13 := Lib.hid (H13.out.keep hb)
  clear hb
  clear xHA_0 xHA_1 lHA xHC_0 xHC_1 lHC xH9_0 xH9_1 lH9 xH11_0 xH11_1 lH11
  have xH9_0 := H9.out.cell 0
  have xH9_1 := H9.out.cell 1
  have lH9 := H9.out.lt
  simp only [List.getElem?_cons_zero, List.getElem?_cons_succ] at xH9_0 xH9_1
  have xH11_0 := H11.out.cell 0
  have xH11_1 := H11.out.cell 1
  have lH11 := H11.out.lt
  simp only [List.getElem?_cons_zero, List.getElem?_cons_succ] at xH11_0 xH11_1
  have xH13_0 := H13.out.cell 0
  have xH13_1 := H13.out.cell 1
  have lH13 := H13.out.lt
  simp only [List.getElem?_cons_zero, List.getElem?_cons_succ] at xH13_0 xH13_1
  go_wp2_with fail
  clear xH9_0 xH9_1 lH9 xH11_0 xH11_1 lH11 xH13_0 xH13_1 lH13
  refine (Join_two _ _ _ _ w9 _ rfl _ _ HJ2.out).mono ?_
  rintro e w10 ⟨rfl, hb⟩
  replace HB := Lib.hid (HB.out.trans (hb.mono HB.out.size))
  replace HA := Lib.hid (HA.out.keep hb)
  replace HC := Lib.hid (HC.out.keep hb)
  replace H9 := Lib.hid (H9.out.keep hb)
  replace H11 := Lib.hid (H11.out.keep hb)
  replace H13 := Lib.hid (H13.out.keep hb)
  clear hb
  have xH9_0 := H9.out.cell 0
  have xH9_1 := H9.out.cell 1
  have lH9 := H9.out.lt
  simp only [List.getElem?_cons_zero, List.getElem?_cons_succ] at xH9_0 xH9_1
  have xH11_0 := H11.out.cell 0
  have xH11_1 := H11.out.cell 1
  have lH11 := H11.out.lt
  simp only [List.getElem?_cons_zero, List.getElem?_cons_succ] at xH11_0 xH11_1
  have xH13_0 := H13.out.cell 0
  have xH13_1 := H13.out.cell 1
  have lH13 := H13.out.lt
  simp only [List.getElem?_cons_zero, List.getElem?_cons_succ] at xH13_0 xH13_1
  go_wp2_with fail
  go_ret
  exact ⟨rfl, bel_alloc HB.out _⟩
theorem SpanTight_walk (c0 : Array Value) (f0 : Nat) (c1 : Array Value) (f1 : Nat) (w : World) (h0 : Agg.Good Try.prog w f0 31 c0.toList) (h1 : Agg.Good Try.prog w f1 31 c1.toList) :
    Calls Try.prog 4 #[.agg c0, .agg c1] w fun e w' => e = .returned (.bool true) ∧ Below w.heap.size w w' := by
  obtain ⟨a0, a1, rfl, ha0, ha1⟩ := good_span h0
  obtain ⟨b0, b1, rfl, hb0, hb1⟩ := good_span h1
  by_cases hbad : a1 < a0 ∨ b1 < b0
  · exact tight_bad a0 a1 b0 b1 w ha0 ha1 hb0 hb1 hbad
  · exact tight_ok a0 a1 b0 b1 _ _ _ _ w (by omega) (by omega) rfl rfl rfl rfl
end Go.Proofs.Ytcedalenjcbnmaa
