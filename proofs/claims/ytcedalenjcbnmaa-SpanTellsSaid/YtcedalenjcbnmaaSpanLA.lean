/-
  THE WALK OF LAYER 4's STATEMENT SpanTells.
-/
import Derived.Test.YtcedalenjcbnmaaSpanL9
import Derived.Test.YtcedalenjcbnmaaWdJ
import Derived.Test.YtcedalenjcbnmaaWdK
namespace Go.Proofs.Ytcedalenjcbnmaa
open Go.ChangeShapes Go.WideShapes Go.ChangeAt Go.RowKit Agg Wd

theorem rHas_any (a b v : Int) (w : World) (r : Bool) (hr : hasB (a, b) v = r) :
    Calls Try.prog 29 #[.agg #[.int .i64 a, .int .i64 b], .int .i64 v] w fun e w' => e = .returned (.bool r) ∧ Below w.heap.size w w' := by
  have HR := Lib.hid hr
  clear hr
  have HB := Lib.hid (Below.refl w.heap.size w)
  go_enter Try.func29, Try.ntmps29
  by_cases h1 : a ≤ v
  · by_cases h2 : v ≤ b
    · have hr2 : r = true := by rw [← HR.out]; simp [hasB, h1, h2]
      go_wp2_with fail
      go_ret
      exact ⟨by first | rfl | (rw [hr2]; rfl), bel_alloc HB.out _⟩
    · have hr2 : r = false := by rw [← HR.out]; simp [hasB, h1, h2]
      go_wp2_with fail
      go_ret
      exact ⟨by first | rfl | (rw [hr2]; rfl), bel_alloc HB.out _⟩
  · have hr2 : r = false := by rw [← HR.out]; simp [hasB, h1]
    go_wp2_with fail
    go_ret
    exact ⟨by first | rfl | (rw [hr2]; rfl), bel_alloc HB.out _⟩
set_option maxHeartbeats 8000000 in
set_option maxRecDepth 100000 in
theorem tells_any (a1 a2 b1 b2 v : Int) (w : World) (ha1 : I64 a1) (ha2 : I64 a2) (hb1 : I64 b1) (hb2 : I64 b2) (hv : I64 v) :
    Calls Try.prog 8 #[.agg #[.int .i64 a1, .int .i64 a2], .agg #[.int .i64 b1, .int .i64 b2], .int .i64 v] w fun e w' => e = .returned (.bool true) ∧ Below w.heap.size w w' := by
  have HA1 := Lib.hid ha1
  have HA2 := Lib.hid ha2
  have HVV := Lib.hid hv
  obtain ⟨ra, hra⟩ : ∃ r, decide (a1 ≤ a2) = r := ⟨_, rfl⟩
  obtain ⟨rb, hrb⟩ : ∃ r, decide (b1 ≤ b2) = r := ⟨_, rfl⟩
  have HRA := Lib.hid hra
  have HRB := Lib.hid hrb
  obtain ⟨ck, hck⟩ : ∃ c, ckE (a1, a2) = c := ⟨_, rfl⟩
  have HCK : Hid (ck = if ra then 0 else 140) := by
    show _ = _
    rw [← hck, ← hra, ckE]
    by_cases h : a1 ≤ a2
    · rw [if_neg (by simp only; omega), decide_eq_true h]; rfl
    · rw [if_pos (by simp only; omega), decide_eq_false h]; rfl
  have HCC := Lib.hid hck
  clear ha1 ha2 hb1 hb2 hv hra hrb hck
  have HB := Lib.hid (Below.refl w.heap.size w)
  go_enter Try.func8, Try.ntmps8
  go_wp2_with fail
  refine Agg.calls_at fun w1 hw1 => ?_
  have hb : Below w.heap.size w w1 := by rw [hw1.out]; repeat (first | exact Below.refl _ _ | refine Agg.bel_drew ?_ | refine Agg.bel_alloc ?_ _)
  replace HB := Lib.hid (HB.out.trans (hb.mono HB.out.size))
  clear hb
  have H3 : Hid (Blk w1 w.heap.size 31 [.int .i64 a1, .int .i64 a2]) := by show Blk _ _ _ _; rw [hw1.out]; exact (Blk.new w 31 #[.int .i64 a1, .int .i64 a2]).al _
  have H4 : Hid (Blk w1 (w.heap.size + 1) 31 [.int .i64 b1, .int .i64 b2]) := by show Blk _ _ _ _; rw [hw1.out]; exact Blk.newAt (w.alloc _) 31 #[.int .i64 b1, .int .i64 b2] _ (by simp)
  clear hw1
  refine (wakes_any w1).mono ?_
  rintro e w2 ⟨rfl, hb⟩
  replace HB := Lib.hid (HB.out.trans (hb.mono HB.out.size))
  replace H3 := Lib.hid (H3.out.keep hb)
  replace H4 := Lib.hid (H4.out.keep hb)
  clear hb
  go_upto_region 3 with (fail)
  refine Agg.chainR 6 (by kernel_rfl) (by kernel_rfl) ?_
  simp only [List.take_succ_cons, List.take_zero, List.drop_succ_cons, List.drop_zero]
  refine Agg.chRowB 2 H3.out rfl (by decide +kernel) rfl rfl rfl rfl ?_
  refine Agg.chCall Try.func26 rfl (by kernel_rfl) rfl rfl rfl rfl (fun W hb => right_any a1 a2 W ra HRA.out) ?_
  refine Agg.chRowB 2 H4.out rfl (by decide +kernel) rfl rfl rfl rfl ?_
  refine Agg.chCall Try.func26 rfl (by kernel_rfl) rfl rfl rfl rfl (fun W hb => right_any b1 b2 W rb HRB.out) ?_
  refine Agg.chAssign rfl rfl rfl rfl ?_
  refine Agg.chAssign rfl rfl rfl rfl ?_
  refine Agg.chEnd ?_
  intro vs w3 hb _
  refine Agg.wpNil ?_
  simp only [List.reverse, List.reverseAux, Agg.fill, List.set_cons_succ, List.set_cons_zero]
  replace HB := Lib.hid (HB.out.trans (hb.mono HB.out.size))
  replace H3 := Lib.hid (H3.out.keep hb)
  replace H4 := Lib.hid (H4.out.keep hb)
  clear hb
  have xH3_0 := H3.out.cell 0
  have xH3_1 := H3.out.cell 1
  have lH3 := H3.out.lt
  simp only [List.getElem?_cons_zero, List.getElem?_cons_succ] at xH3_0 xH3_1
  go_wp2_with fail
  clear xH3_0 xH3_1 lH3
  have hch := check_any a1 a2 w3
  rw [HCC.out] at hch
  refine hch.mono ?_
  rintro e w30 ⟨rfl, hb⟩
  clear hch
  have hb := hb
  replace HB := Lib.hid (HB.out.trans (hb.mono HB.out.size))
  replace H3 := Lib.hid (H3.out.keep hb)
  replace H4 := Lib.hid (H4.out.keep hb)
  clear hb
  go_upto_region 5 with (fail)
  go_cut [32] from 21 to 32 (fun x wx => x = .bool false ∧ wx = w30)
  case first =>
    cases ra
    · have : ck = 140 := HCK.out
      subst this
      go_wp2_with fail
      go_meet
      exact ⟨rfl, rfl⟩
    · have : ck = 0 := HCK.out
      subst this
      go_wp2_with fail
      go_meet
      exact ⟨rfl, rfl⟩
  case rest =>
    obtain ⟨rfl, rfl⟩ := hcut
    go_upto_region 7 with (fail)
    go_cut [74] from 33 to 74 (fun x wx => x = .bool false ∧ Below w.heap.size w wx ∧ Blk wx w.heap.size 31 [.int .i64 a1, .int .i64 a2] ∧ Blk wx (w.heap.size + 1) 31 [.int .i64 b1, .int .i64 b2])
    case first =>
      obtain ⟨hv0, hh0⟩ : ∃ r, hasB (a1, a2) v = r := ⟨_, rfl⟩
      obtain ⟨wq, hwq⟩ : ∃ r, withinB (a1, a2) (b1, b2) = r := ⟨_, rfl⟩
      have HH := Lib.hid hh0
      have HWQ := Lib.hid hwq
      have HHA : Hid (ra = false → hv0 = false) := by
        refine Lib.hid (fun h => ?_)
        have h2 := HRA.out
        rw [h, decide_eq_false_iff_not] at h2
        rw [← hh0, hasB]; simp only [Bool.and_eq_false_iff, decide_eq_false_iff_not]; omega
      have HWE : Hid (wq = (ra && rb && decide (b1 ≤ a1) && decide (a2 ≤ b2))) := by show _ = _; rw [← HRA.out, ← HRB.out, ← hwq]; rfl
      clear hh0 hwq
      clear HRA HRB HCC HCK
      cases ra
      · obtain rfl := HHA.out rfl
        obtain rfl : wq = false := HWE.out
        refine Agg.listR 42 (by kernel_rfl) ?_
        simp only [List.take_succ_cons, List.take_zero, List.drop_succ_cons, List.drop_zero]
        refine Agg.chMove rfl rfl rfl rfl ?_
        refine Agg.chCall Try.func28 rfl (by kernel_rfl) rfl rfl rfl rfl (fun W hb => point_any v W) ?_
        refine Agg.chMove rfl rfl rfl rfl ?_
        refine Agg.chMove rfl rfl rfl rfl ?_
        refine Agg.chBuild (v := .agg #[.int .i64 v, .int .i64 v]) rfl rfl rfl rfl (fun _ => by kernel_rfl) ?_
        refine Agg.chBin (v := .bool false) rfl rfl rfl rfl rfl (fun w => flatSp.gd .neq _ _ _ _ w) (fun w => (by simpa using flatSp.neq (xs := [.int .i64 v, .int .i64 v]) (ys := [.int .i64 v, .int .i64 v]) (fitsSp HVV.out HVV.out) (fitsSp HVV.out HVV.out) true (by simp) w)) ?_
        refine Agg.chMove rfl rfl rfl rfl ?_
        refine Agg.chRowB 2 H3.out rfl (by decide +kernel) rfl rfl rfl rfl ?_
        refine Agg.chMove rfl rfl rfl rfl ?_
        refine Agg.chCall Try.func16 rfl (by kernel_rfl) rfl rfl rfl rfl (fun W hb => has_any a1 a2 v W false HH.out) ?_
        refine Agg.chMove rfl rfl rfl rfl ?_
        refine Agg.chMove rfl rfl rfl rfl ?_
        refine Agg.chSkip rfl rfl ?_
        refine Agg.chSkip rfl rfl ?_
        refine Agg.chSkip rfl rfl ?_
        refine Agg.chPick rfl rfl rfl rfl rfl ?_
        refine Agg.chNeB false Try.underlying4 (by simp) rfl rfl rfl rfl rfl ?_
        refine Agg.chPick rfl rfl rfl rfl rfl ?_
        refine Agg.chMove rfl rfl rfl rfl ?_
        refine Agg.chRowB 2 H3.out rfl (by decide +kernel) rfl rfl rfl rfl ?_
        refine Agg.chRowB 2 H4.out rfl (by decide +kernel) rfl rfl rfl rfl ?_
        refine Agg.chCall Try.func22 rfl (by kernel_rfl) rfl rfl rfl rfl (fun W hb => within_any a1 a2 b1 b2 W false HWQ.out) ?_
        refine Agg.chMove rfl rfl rfl rfl ?_
        refine Agg.chMove rfl rfl rfl rfl ?_
        refine Agg.chSkip rfl rfl ?_
        refine Agg.chPick rfl rfl rfl rfl rfl ?_
        refine Agg.chMove rfl rfl rfl rfl ?_
        refine Agg.chSkip rfl rfl ?_
        refine Agg.chSkip rfl rfl ?_
        refine Agg.chSkip rfl rfl ?_
        refine Agg.chSkip rfl rfl ?_
        refine Agg.chSkip rfl rfl ?_
        refine Agg.chPick rfl rfl rfl rfl rfl ?_
        refine Agg.chMove rfl rfl rfl rfl ?_
        refine Agg.chSkip rfl rfl ?_
        refine Agg.chSkip rfl rfl ?_
        refine Agg.chSkip rfl rfl ?_
        refine Agg.chSkip rfl rfl ?_
        refine Agg.chSkip rfl rfl ?_
        refine Agg.chPick rfl rfl rfl rfl rfl ?_
        refine Agg.chNeB false Try.underlying4 (rfl) rfl rfl rfl rfl rfl ?_
        refine Agg.chPick rfl rfl rfl rfl rfl ?_
        refine Agg.chEnd ?_
        intro vs w31 hb _
        show Exit.then _ _ Exit.normal _ _
        simp only [List.reverse, List.reverseAux, Agg.fill, List.set_cons_succ, List.set_cons_zero]
        replace HB := Lib.hid (HB.out.trans (hb.mono HB.out.size))
        replace H3 := Lib.hid (H3.out.keep hb)
        replace H4 := Lib.hid (H4.out.keep hb)
        clear hb
        go_wp2_with fail
        go_meet
        exact ⟨rfl, HB.out, H3.out, H4.out⟩
      · clear HHA
        cases rb
        · obtain rfl : wq = false := HWE.out
          refine Agg.listR 42 (by kernel_rfl) ?_
          simp only [List.take_succ_cons, List.take_zero, List.drop_succ_cons, List.drop_zero]
          refine Agg.chMove rfl rfl rfl rfl ?_
          refine Agg.chCall Try.func28 rfl (by kernel_rfl) rfl rfl rfl rfl (fun W hb => point_any v W) ?_
          refine Agg.chMove rfl rfl rfl rfl ?_
          refine Agg.chMove rfl rfl rfl rfl ?_
          refine Agg.chBuild (v := .agg #[.int .i64 v, .int .i64 v]) rfl rfl rfl rfl (fun _ => by kernel_rfl) ?_
          refine Agg.chBin (v := .bool false) rfl rfl rfl rfl rfl (fun w => flatSp.gd .neq _ _ _ _ w) (fun w => (by simpa using flatSp.neq (xs := [.int .i64 v, .int .i64 v]) (ys := [.int .i64 v, .int .i64 v]) (fitsSp HVV.out HVV.out) (fitsSp HVV.out HVV.out) true (by simp) w)) ?_
          refine Agg.chMove rfl rfl rfl rfl ?_
          refine Agg.chRowB 2 H3.out rfl (by decide +kernel) rfl rfl rfl rfl ?_
          refine Agg.chMove rfl rfl rfl rfl ?_
          refine Agg.chCall Try.func16 rfl (by kernel_rfl) rfl rfl rfl rfl (fun W hb => has_any a1 a2 v W hv0 HH.out) ?_
          refine Agg.chMove rfl rfl rfl rfl ?_
          refine Agg.chMove rfl rfl rfl rfl ?_
          refine Agg.chRowB 2 H3.out rfl (by decide +kernel) rfl rfl rfl rfl ?_
          refine Agg.chMove rfl rfl rfl rfl ?_
          refine Agg.chCall Try.func29 rfl (by kernel_rfl) rfl rfl rfl rfl (fun W hb => rHas_any a1 a2 v W hv0 HH.out) ?_
          refine Agg.chPick rfl rfl rfl rfl rfl ?_
          refine Agg.chNeB false Try.underlying4 (by simp) rfl rfl rfl rfl rfl ?_
          refine Agg.chPick rfl rfl rfl rfl rfl ?_
          refine Agg.chMove rfl rfl rfl rfl ?_
          refine Agg.chRowB 2 H3.out rfl (by decide +kernel) rfl rfl rfl rfl ?_
          refine Agg.chRowB 2 H4.out rfl (by decide +kernel) rfl rfl rfl rfl ?_
          refine Agg.chCall Try.func22 rfl (by kernel_rfl) rfl rfl rfl rfl (fun W hb => within_any a1 a2 b1 b2 W false HWQ.out) ?_
          refine Agg.chMove rfl rfl rfl rfl ?_
          refine Agg.chMove rfl rfl rfl rfl ?_
          refine Agg.chMove rfl rfl rfl rfl ?_
          refine Agg.chPick rfl rfl rfl rfl rfl ?_
          refine Agg.chMove rfl rfl rfl rfl ?_
          refine Agg.chSkip rfl rfl ?_
          refine Agg.chSkip rfl rfl ?_
          refine Agg.chSkip rfl rfl ?_
          refine Agg.chSkip rfl rfl ?_
          refine Agg.chSkip rfl rfl ?_
          refine Agg.chPick rfl rfl rfl rfl rfl ?_
          refine Agg.chMove rfl rfl rfl rfl ?_
          refine Agg.chSkip rfl rfl ?_
          refine Agg.chSkip rfl rfl ?_
          refine Agg.chSkip rfl rfl ?_
          refine Agg.chSkip rfl rfl ?_
          refine Agg.chSkip rfl rfl ?_
          refine Agg.chPick rfl rfl rfl rfl rfl ?_
          refine Agg.chNeB false Try.underlying4 (rfl) rfl rfl rfl rfl rfl ?_
          refine Agg.chPick rfl rfl rfl rfl rfl ?_
          refine Agg.chEnd ?_
          intro vs w32 hb _
          show Exit.then _ _ Exit.normal _ _
          simp only [List.reverse, List.reverseAux, Agg.fill, List.set_cons_succ, List.set_cons_zero]
          replace HB := Lib.hid (HB.out.trans (hb.mono HB.out.size))
          replace H3 := Lib.hid (H3.out.keep hb)
          replace H4 := Lib.hid (H4.out.keep hb)
          clear hb
          go_wp2_with fail
          go_meet
          exact ⟨rfl, HB.out, H3.out, H4.out⟩
        · by_cases c1 : b1 ≤ a1
          · have HC1 : Hid (b1 ≤ a1) := Lib.hid c1
            by_cases c2 : a2 ≤ b2
            · have HC2 : Hid (a2 ≤ b2) := Lib.hid c2
              obtain rfl : wq = true := by rw [HWE.out]; simp [c1, c2]
              clear c1 c2
              refine Agg.listR 42 (by kernel_rfl) ?_
              simp only [List.take_succ_cons, List.take_zero, List.drop_succ_cons, List.drop_zero]
              refine Agg.chMove rfl rfl rfl rfl ?_
              refine Agg.chCall Try.func28 rfl (by kernel_rfl) rfl rfl rfl rfl (fun W hb => point_any v W) ?_
              refine Agg.chMove rfl rfl rfl rfl ?_
              refine Agg.chMove rfl rfl rfl rfl ?_
              refine Agg.chBuild (v := .agg #[.int .i64 v, .int .i64 v]) rfl rfl rfl rfl (fun _ => by kernel_rfl) ?_
              refine Agg.chBin (v := .bool false) rfl rfl rfl rfl rfl (fun w => flatSp.gd .neq _ _ _ _ w) (fun w => (by simpa using flatSp.neq (xs := [.int .i64 v, .int .i64 v]) (ys := [.int .i64 v, .int .i64 v]) (fitsSp HVV.out HVV.out) (fitsSp HVV.out HVV.out) true (by simp) w)) ?_
              refine Agg.chMove rfl rfl rfl rfl ?_
              refine Agg.chRowB 2 H3.out rfl (by decide +kernel) rfl rfl rfl rfl ?_
              refine Agg.chMove rfl rfl rfl rfl ?_
              refine Agg.chCall Try.func16 rfl (by kernel_rfl) rfl rfl rfl rfl (fun W hb => has_any a1 a2 v W hv0 HH.out) ?_
              refine Agg.chMove rfl rfl rfl rfl ?_
              refine Agg.chMove rfl rfl rfl rfl ?_
              refine Agg.chRowB 2 H3.out rfl (by decide +kernel) rfl rfl rfl rfl ?_
              refine Agg.chMove rfl rfl rfl rfl ?_
              refine Agg.chCall Try.func29 rfl (by kernel_rfl) rfl rfl rfl rfl (fun W hb => rHas_any a1 a2 v W hv0 HH.out) ?_
              refine Agg.chPick rfl rfl rfl rfl rfl ?_
              refine Agg.chNeB false Try.underlying4 (by simp) rfl rfl rfl rfl rfl ?_
              refine Agg.chPick rfl rfl rfl rfl rfl ?_
              refine Agg.chMove rfl rfl rfl rfl ?_
              refine Agg.chRowB 2 H3.out rfl (by decide +kernel) rfl rfl rfl rfl ?_
              refine Agg.chRowB 2 H4.out rfl (by decide +kernel) rfl rfl rfl rfl ?_
              refine Agg.chCall Try.func22 rfl (by kernel_rfl) rfl rfl rfl rfl (fun W hb => within_any a1 a2 b1 b2 W true HWQ.out) ?_
              refine Agg.chMove rfl rfl rfl rfl ?_
              refine Agg.chMove rfl rfl rfl rfl ?_
              refine Agg.chMove rfl rfl rfl rfl ?_
              refine Agg.chPick rfl rfl rfl rfl rfl ?_
              refine Agg.chMove rfl rfl rfl rfl ?_
              refine Agg.chFA fo_Span_0 rfl rfl rfl rfl ?_
              refine Agg.chLoadB H4.out (by decide +kernel) rfl rfl (by rfl) rfl rfl ?_
              refine Agg.chFA fo_Span_0 rfl rfl rfl rfl ?_
              refine Agg.chLoadB H3.out (by decide +kernel) rfl rfl (by rfl) rfl rfl ?_
              refine Agg.chLe true (by simpa using HC1.out) rfl rfl rfl rfl rfl ?_
              refine Agg.chPick rfl rfl rfl rfl rfl ?_
              refine Agg.chMove rfl rfl rfl rfl ?_
              refine Agg.chFA fo_Span_1 rfl rfl rfl rfl ?_
              refine Agg.chLoadB H3.out (by decide +kernel) rfl rfl (by rfl) rfl rfl ?_
              refine Agg.chFA fo_Span_1 rfl rfl rfl rfl ?_
              refine Agg.chLoadB H4.out (by decide +kernel) rfl rfl (by rfl) rfl rfl ?_
              refine Agg.chLe true (by simpa using HC2.out) rfl rfl rfl rfl rfl ?_
              refine Agg.chPick rfl rfl rfl rfl rfl ?_
              refine Agg.chNeB false Try.underlying4 (rfl) rfl rfl rfl rfl rfl ?_
              refine Agg.chPick rfl rfl rfl rfl rfl ?_
              refine Agg.chEnd ?_
              intro vs w33 hb _
              show Exit.then _ _ Exit.normal _ _
              simp only [List.reverse, List.reverseAux, Agg.fill, List.set_cons_succ, List.set_cons_zero]
              replace HB := Lib.hid (HB.out.trans (hb.mono HB.out.size))
              replace H3 := Lib.hid (H3.out.keep hb)
              replace H4 := Lib.hid (H4.out.keep hb)
              clear hb
              go_wp2_with fail
              go_meet
              exact ⟨rfl, HB.out, H3.out, H4.out⟩
            · have HC2 : Hid (¬ a2 ≤ b2) := Lib.hid c2
              obtain rfl : wq = false := by rw [HWE.out]; simp [c1]; omega
              clear c1 c2
              refine Agg.listR 42 (by kernel_rfl) ?_
              simp only [List.take_succ_cons, List.take_zero, List.drop_succ_cons, List.drop_zero]
              refine Agg.chMove rfl rfl rfl rfl ?_
              refine Agg.chCall Try.func28 rfl (by kernel_rfl) rfl rfl rfl rfl (fun W hb => point_any v W) ?_
              refine Agg.chMove rfl rfl rfl rfl ?_
              refine Agg.chMove rfl rfl rfl rfl ?_
              refine Agg.chBuild (v := .agg #[.int .i64 v, .int .i64 v]) rfl rfl rfl rfl (fun _ => by kernel_rfl) ?_
              refine Agg.chBin (v := .bool false) rfl rfl rfl rfl rfl (fun w => flatSp.gd .neq _ _ _ _ w) (fun w => (by simpa using flatSp.neq (xs := [.int .i64 v, .int .i64 v]) (ys := [.int .i64 v, .int .i64 v]) (fitsSp HVV.out HVV.out) (fitsSp HVV.out HVV.out) true (by simp) w)) ?_
              refine Agg.chMove rfl rfl rfl rfl ?_
              refine Agg.chRowB 2 H3.out rfl (by decide +kernel) rfl rfl rfl rfl ?_
              refine Agg.chMove rfl rfl rfl rfl ?_
              refine Agg.chCall Try.func16 rfl (by kernel_rfl) rfl rfl rfl rfl (fun W hb => has_any a1 a2 v W hv0 HH.out) ?_
              refine Agg.chMove rfl rfl rfl rfl ?_
              refine Agg.chMove rfl rfl rfl rfl ?_
              refine Agg.chRowB 2 H3.out rfl (by decide +kernel) rfl rfl rfl rfl ?_
              refine Agg.chMove rfl rfl rfl rfl ?_
              refine Agg.chCall Try.func29 rfl (by kernel_rfl) rfl rfl rfl rfl (fun W hb => rHas_any a1 a2 v W hv0 HH.out) ?_
              refine Agg.chPick rfl rfl rfl rfl rfl ?_
              refine Agg.chNeB false Try.underlying4 (by simp) rfl rfl rfl rfl rfl ?_
              refine Agg.chPick rfl rfl rfl rfl rfl ?_
              refine Agg.chMove rfl rfl rfl rfl ?_
              refine Agg.chRowB 2 H3.out rfl (by decide +kernel) rfl rfl rfl rfl ?_
              refine Agg.chRowB 2 H4.out rfl (by decide +kernel) rfl rfl rfl rfl ?_
              refine Agg.chCall Try.func22 rfl (by kernel_rfl) rfl rfl rfl rfl (fun W hb => within_any a1 a2 b1 b2 W false HWQ.out) ?_
              refine Agg.chMove rfl rfl rfl rfl ?_
              refine Agg.chMove rfl rfl rfl rfl ?_
              refine Agg.chMove rfl rfl rfl rfl ?_
              refine Agg.chPick rfl rfl rfl rfl rfl ?_
              refine Agg.chMove rfl rfl rfl rfl ?_
              refine Agg.chFA fo_Span_0 rfl rfl rfl rfl ?_
              refine Agg.chLoadB H4.out (by decide +kernel) rfl rfl (by rfl) rfl rfl ?_
              refine Agg.chFA fo_Span_0 rfl rfl rfl rfl ?_
              refine Agg.chLoadB H3.out (by decide +kernel) rfl rfl (by rfl) rfl rfl ?_
              refine Agg.chLe true (by simpa using HC1.out) rfl rfl rfl rfl rfl ?_
              refine Agg.chPick rfl rfl rfl rfl rfl ?_
              refine Agg.chMove rfl rfl rfl rfl ?_
              refine Agg.chFA fo_Span_1 rfl rfl rfl rfl ?_
              refine Agg.chLoadB H3.out (by decide +kernel) rfl rfl (by rfl) rfl rfl ?_
              refine Agg.chFA fo_Span_1 rfl rfl rfl rfl ?_
              refine Agg.chLoadB H4.out (by decide +kernel) rfl rfl (by rfl) rfl rfl ?_
              refine Agg.chLe false (by simpa using HC2.out) rfl rfl rfl rfl rfl ?_
              refine Agg.chPick rfl rfl rfl rfl rfl ?_
              refine Agg.chNeB false Try.underlying4 (rfl) rfl rfl rfl rfl rfl ?_
              refine Agg.chPick rfl rfl rfl rfl rfl ?_
              refine Agg.chEnd ?_
              intro vs w34 hb _
              show Exit.then _ _ Exit.normal _ _
              simp only [List.reverse, List.reverseAux, Agg.fill, List.set_cons_succ, List.set_cons_zero]
              replace HB := Lib.hid (HB.out.trans (hb.mono HB.out.size))
              replace H3 := Lib.hid (H3.out.keep hb)
              replace H4 := Lib.hid (H4.out.keep hb)
              clear hb
              go_wp2_with fail
              go_meet
              exact ⟨rfl, HB.out, H3.out, H4.out⟩
          · have HC1 : Hid (¬ b1 ≤ a1) := Lib.hid c1
            obtain rfl : wq = false := by rw [HWE.out]; simp; omega
            clear c1
            refine Agg.listR 42 (by kernel_rfl) ?_
            simp only [List.take_succ_cons, List.take_zero, List.drop_succ_cons, List.drop_zero]
            refine Agg.chMove rfl rfl rfl rfl ?_
            refine Agg.chCall Try.func28 rfl (by kernel_rfl) rfl rfl rfl rfl (fun W hb => point_any v W) ?_
            refine Agg.chMove rfl rfl rfl rfl ?_
            refine Agg.chMove rfl rfl rfl rfl ?_
            refine Agg.chBuild (v := .agg #[.int .i64 v, .int .i64 v]) rfl rfl rfl rfl (fun _ => by kernel_rfl) ?_
            refine Agg.chBin (v := .bool false) rfl rfl rfl rfl rfl (fun w => flatSp.gd .neq _ _ _ _ w) (fun w => (by simpa using flatSp.neq (xs := [.int .i64 v, .int .i64 v]) (ys := [.int .i64 v, .int .i64 v]) (fitsSp HVV.out HVV.out) (fitsSp HVV.out HVV.out) true (by simp) w)) ?_
            refine Agg.chMove rfl rfl rfl rfl ?_
            refine Agg.chRowB 2 H3.out rfl (by decide +kernel) rfl rfl rfl rfl ?_
            refine Agg.chMove rfl rfl rfl rfl ?_
            refine Agg.chCall Try.func16 rfl (by kernel_rfl) rfl rfl rfl rfl (fun W hb => has_any a1 a2 v W hv0 HH.out) ?_
            refine Agg.chMove rfl rfl rfl rfl ?_
            refine Agg.chMove rfl rfl rfl rfl ?_
            refine Agg.chRowB 2 H3.out rfl (by decide +kernel) rfl rfl rfl rfl ?_
            refine Agg.chMove rfl rfl rfl rfl ?_
            refine Agg.chCall Try.func29 rfl (by kernel_rfl) rfl rfl rfl rfl (fun W hb => rHas_any a1 a2 v W hv0 HH.out) ?_
            refine Agg.chPick rfl rfl rfl rfl rfl ?_
            refine Agg.chNeB false Try.underlying4 (by simp) rfl rfl rfl rfl rfl ?_
            refine Agg.chPick rfl rfl rfl rfl rfl ?_
            refine Agg.chMove rfl rfl rfl rfl ?_
            refine Agg.chRowB 2 H3.out rfl (by decide +kernel) rfl rfl rfl rfl ?_
            refine Agg.chRowB 2 H4.out rfl (by decide +kernel) rfl rfl rfl rfl ?_
            refine Agg.chCall Try.func22 rfl (by kernel_rfl) rfl rfl rfl rfl (fun W hb => within_any a1 a2 b1 b2 W false HWQ.out) ?_
            refine Agg.chMove rfl rfl rfl rfl ?_
            refine Agg.chMove rfl rfl rfl rfl ?_
            refine Agg.chMove rfl rfl rfl rfl ?_
            refine Agg.chPick rfl rfl rfl rfl rfl ?_
            refine Agg.chMove rfl rfl rfl rfl ?_
            refine Agg.chFA fo_Span_0 rfl rfl rfl rfl ?_
            refine Agg.chLoadB H4.out (by decide +kernel) rfl rfl (by rfl) rfl rfl ?_
            refine Agg.chFA fo_Span_0 rfl rfl rfl rfl ?_
            refine Agg.chLoadB H3.out (by decide +kernel) rfl rfl (by rfl) rfl rfl ?_
            refine Agg.chLe false (by simpa using HC1.out) rfl rfl rfl rfl rfl ?_
            refine Agg.chPick rfl rfl rfl rfl rfl ?_
            refine Agg.chMove rfl rfl rfl rfl ?_
            refine Agg.chSkip rfl rfl ?_
            refine Agg.chSkip rfl rfl ?_
            refine Agg.chSkip rfl rfl ?_
            refine Agg.chSkip rfl rfl ?_
            refine Agg.chSkip rfl rfl ?_
            refine Agg.chPick rfl rfl rfl rfl rfl ?_
            refine Agg.chNeB false Try.underlying4 (rfl) rfl rfl rfl rfl rfl ?_
            refine Agg.chPick rfl rfl rfl rfl rfl ?_
            refine Agg.chEnd ?_
            intro vs w35 hb _
            show Exit.then _ _ Exit.normal _ _
            simp only [List.reverse, List.reverseAux, Agg.fill, List.set_cons_succ, List.set_cons_zero]
            replace HB := Lib.hid (HB.out.trans (hb.mono HB.out.size))
            replace H3 := Lib.hid (H3.out.keep hb)
            replace H4 := Lib.hid (H4.out.keep hb)
            clear hb
            go_wp2_with fail
            go_meet
            exact ⟨rfl, HB.out, H3.out, H4.out⟩
    case rest =>
      obtain ⟨rfl, hb, h3, h4⟩ := hcut
      replace HB := Lib.hid hb
      replace H3 := Lib.hid h3
      clear hb h3 h4 H4
      have xH3_0 := H3.out.cell 0
      have xH3_1 := H3.out.cell 1
      have lH3 := H3.out.lt
      simp only [List.getElem?_cons_zero, List.getElem?_cons_succ] at xH3_0 xH3_1
      go_wp2_with fail
      clear xH3_0 xH3_1 lH3
      refine (width_any a1 a2 wc HA1.out HA2.out).mono ?_
      rintro e w81 ⟨rfl, hb⟩
      replace HB := Lib.hid (HB.out.trans (hb.mono HB.out.size))
      replace H3 := Lib.hid (H3.out.keep hb)
      clear hb
      obtain ⟨wd, hwd⟩ : ∃ x, widthI (a1, a2) = x := ⟨_, rfl⟩
      rw [hwd]
      have HWD := Lib.hid hwd
      clear hwd
      have xH3_0 := H3.out.cell 0
      have xH3_1 := H3.out.cell 1
      have lH3 := H3.out.lt
      simp only [List.getElem?_cons_zero, List.getElem?_cons_succ] at xH3_0 xH3_1
      go_wp2_with fail
      obtain ⟨⟨m, er⟩, hm⟩ : ∃ r, (if a2 < a1 then ((0 : Int), (140 : Int)) else (midI (a1, a2), 0)) = r := ⟨_, rfl⟩
      have HM := Lib.hid hm
      clear hm
      clear xH3_0 xH3_1 lH3
      refine (middle_any a1 a2 w81 HA1.out HA2.out m er HM.out).mono ?_
      rintro e w82 ⟨rfl, hb⟩
      replace HB := Lib.hid (HB.out.trans (hb.mono HB.out.size))
      replace H3 := Lib.hid (H3.out.keep hb)
      clear hb
      cases ra
      · have hlt : a2 < a1 := by have := HRA.out; simp only [decide_eq_false_iff_not] at this; omega
        have h1 : wd = 0 := by rw [← HWD.out, widthI, if_pos hlt]
        have h2 := HM.out
        rw [if_pos hlt] at h2
        simp only [Prod.mk.injEq] at h2
        obtain ⟨rfl, rfl⟩ := h2
        subst h1
        clear hlt HM HWD HRA
        go_wp2_with fail
        go_ret
        exact ⟨rfl, HB.out⟩
      · have hle : a1 ≤ a2 := by have := HRA.out; simpa using this
        obtain ⟨n, hn⟩ : ∃ n : Nat, a2 - a1 = n := ⟨(a2 - a1).toNat, by omega⟩
        have h1 : wd = (n : Int) := by rw [← HWD.out, widthI, if_neg (by simp only; omega)]; exact hn
        have h2 := HM.out
        rw [if_neg (by omega)] at h2
        simp only [Prod.mk.injEq] at h2
        obtain ⟨rfl, rfl⟩ := h2
        subst h1
        have HN : Hid (n < 18446744073709551616) := Lib.hid (by have h1 := HA1.out; have h2 := HA2.out; unfold I64 at h1 h2; omega)
        have HNE : Hid (a2 - a1 = n) := Lib.hid hn
        have HML : Hid (midI (a1, a2) = (a1 + a2) / 2) := Lib.hid (by unfold midI; simp only; omega)
        have HSL : Hid ((digs (n : Int).natAbs).length ≤ 1000) := by
          rw [Int.natAbs_natCast]
          exact Lib.hid (Nat.le_trans (digs_len (k := 64) (by have e : (2 : Nat) ^ 64 = 18446744073709551616 := by decide
                                                              have := HN.out; omega)) (by decide))
        generalize midI (a1, a2) = mm at *
        clear hn hle HM HWD HRA
        go_upto_region 13 with (fail)
        refine Agg.chainR 17 (by kernel_rfl) (by kernel_rfl) ?_
        simp only [List.take_succ_cons, List.take_zero, List.drop_succ_cons, List.drop_zero]
        refine Agg.chMove rfl rfl rfl rfl ?_
        refine Agg.chEq true (by decide) rfl rfl rfl rfl rfl ?_
        refine Agg.chMove rfl rfl rfl rfl ?_
        refine Agg.chMove rfl rfl rfl rfl ?_
        refine Agg.chRowB 2 H3.out rfl (by decide +kernel) rfl rfl rfl rfl ?_
        refine Agg.chCall Try.func31 rfl (by kernel_rfl) rfl rfl rfl rfl (fun W hb => rMiddle_any a1 a2 HA1.out.1 HA1.out.2 HA2.out.1 HA2.out.2 W) ?_
        refine Agg.chEq true (beq_iff_eq.2 HML.out) rfl rfl rfl rfl rfl ?_
        refine Agg.chPick rfl rfl rfl rfl rfl ?_
        refine Agg.chMove rfl rfl rfl rfl ?_
        refine Agg.chMove rfl rfl rfl rfl ?_
        refine Agg.chBuild (v := .agg #[.int .i64 0, .int .u64 (n : Int)]) rfl rfl rfl rfl (fun _ => by kernel_rfl) ?_
        refine Agg.chCallG Try.func33 rfl (by kernel_rfl) (NumV n) (NumV.stable _) rfl rfl rfl rfl (fun W hb => low_any n HN.out W) ?_
        refine Agg.chRowB 2 H3.out rfl (by decide +kernel) rfl rfl rfl rfl ?_
        refine Agg.chCallG Try.func34 rfl (by kernel_rfl) (NumV n) (NumV.stable _) rfl rfl rfl rfl (fun W hb => by have h := rWidth_any a1 a2 HA1.out.1 HA1.out.2 HA2.out.1 HA2.out.2 W; rw [HNE.out] at h; exact h) ?_
        refine Agg.chCall_oo Try.func32 rfl (by kernel_rfl) (.pure (.bool true)) trivial 11 13 rfl rfl rfl rfl rfl rfl rfl rfl rfl (fun u u2 W hb hg hg2 => (same_any (n : Int) HSL.out u u2 W hg hg2).mono (fun e w' ⟨q1, q2⟩ => ⟨_, q1, rfl, q2⟩)) ?_
        refine Agg.chPick rfl rfl rfl rfl rfl ?_
        refine Agg.chAssign rfl rfl rfl rfl ?_
        refine Agg.chEnd ?_
        intro vs w83 hb _
        refine Agg.wpNil ?_
        simp only [List.reverse, List.reverseAux, Agg.fill, List.set_cons_succ, List.set_cons_zero]
        replace HB := Lib.hid (HB.out.trans (hb.mono HB.out.size))
        replace H3 := Lib.hid (H3.out.keep hb)
        clear hb
        go_wp2_with fail
        go_ret
        exact ⟨rfl, HB.out⟩
theorem SpanTells_walk (c0 : Array Value) (f0 : Nat) (c1 : Array Value) (f1 : Nat) (v : Int) (w : World) (h0 : Agg.Good Try.prog w f0 31 c0.toList) (h1 : Agg.Good Try.prog w f1 31 c1.toList) (h2 : (Lit.int .i64 v).wf = true) :
    Calls Try.prog 8 #[.agg c0, .agg c1, .int .i64 v] w fun e w' => e = .returned (.bool true) ∧ Below w.heap.size w w' := by
  obtain ⟨a0, a1, rfl, ha0, ha1⟩ := good_span h0
  obtain ⟨b0, b1, rfl, hb0, hb1⟩ := good_span h1
  exact tells_any a0 a1 b0 b1 v w ha0 ha1 hb0 hb1 (i64_wf h2)
end Go.Proofs.Ytcedalenjcbnmaa
