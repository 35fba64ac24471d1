/-
  THE WALK OF LAYER 17's STATEMENT PageLays.
-/
import Derived.Test.YtoeofoihkkhpfaaPgJ
import Derived.Test.YtoeofoihkkhpfaaChain3
namespace Go.Proofs.Ytoeofoihkkhpfaa
open Go.ChangeShapes Go.WideShapes Go.ChangeAt Go.RowKit Agg Pg

/-- a page of its own: what own yields -/
def OwnP (k : Int) (d : List UInt8) (v : Value) (w : World) : Prop := ∃ u, v = .agg #[.int .i64 k, u] ∧ Bytes w u d
theorem OwnP.stable (k : Int) (d : List UInt8) : Stable (OwnP k d) := fun _ _ _ ⟨u, h1, h2⟩ hb => ⟨u, h1, h2.keep hb⟩
theorem own_P (k : Int) (d : List UInt8) (dv : Value) (w : World) (hd : Bytes w dv d) :
    Calls Try.prog 11 #[.agg #[.int .i64 k, dv]] w fun e w' => ∃ v, e = .returned v ∧ OwnP k (d.take 200) v w' ∧ Below w.heap.size w w' :=
  (own_any k d dv w hd).mono fun _ _ ⟨u, h1, h2, h3⟩ => ⟨_, h1, ⟨u, rfl, h2⟩, h3⟩
theorem page_far (k : Int) (u : Value) (hu : ∀ z, u ≠ .int .u8 z) : ∀ (i : Nat) (z : Int), [Value.int .i64 k, u][i]? ≠ some (.int .u8 z) := by
  intro i z h
  rcases i with _ | _ | i
  · simp at h
  · simp at h; exact hu z h
  · simp at h
set_option maxHeartbeats 8000000 in
set_option maxRecDepth 100000 in
theorem lays_any (k1 k2 : Int) (x1 x2 : List UInt8) (v1 v2 : Value) (n : Nat) (_hn : n < 18446744073709551616) (w : World) (hv1 : Bytes w v1 x1) (hv2 : Bytes w v2 x2) :
    Calls Try.prog 3 #[.agg #[.int .i64 k1, v1], .agg #[.int .i64 k2, v2], .int .u64 (n : Int)] w fun e w' => e = .returned (.bool true) ∧ Below w.heap.size w w' := by
  have HX1 := Lib.hid hv1
  have HX2 := Lib.hid hv2
  obtain ⟨y1, c1, rfl, _, _⟩ := SlR.shape hv1
  obtain ⟨y2, c2, rfl, _, _⟩ := SlR.shape hv2
  clear hv1 hv2
  have HB := Lib.hid (Below.refl w.heap.size w)
  go_enter Try.func3, Try.ntmps3
  go_wp2_with fail
  refine Agg.calls_at fun w1 hw1 => ?_
  have hb : Below w.heap.size w w1 := by rw [hw1.out]; repeat (first | exact Below.refl _ _ | refine Agg.bel_drew ?_ | refine Agg.bel_alloc ?_ _)
  replace HB := Lib.hid (HB.out.trans (hb.mono HB.out.size))
  replace HX1 := Lib.hid (HX1.out.keep hb)
  replace HX2 := Lib.hid (HX2.out.keep hb)
  clear hb
  have H3 : Hid (Blk w1 w.heap.size 24 [.int .i64 k1, .slice y1 x1.length c1]) := by show Blk _ _ _ _; rw [hw1.out]; exact (Blk.new w 24 #[.int .i64 k1, .slice y1 x1.length c1]).al _
  have H4 : Hid (Blk w1 (w.heap.size + 1) 24 [.int .i64 k2, .slice y2 x2.length c2]) := by show Blk _ _ _ _; rw [hw1.out]; exact Blk.newAt (w.alloc _) 24 #[.int .i64 k2, .slice y2 x2.length c2] _ (by simp)
  clear hw1
  refine (wakes_any w1).mono ?_
  rintro e w2 ⟨rfl, hb⟩
  replace HB := Lib.hid (HB.out.trans (hb.mono HB.out.size))
  replace HX1 := Lib.hid (HX1.out.keep hb)
  replace HX2 := Lib.hid (HX2.out.keep hb)
  replace H3 := Lib.hid (H3.out.keep hb)
  replace H4 := Lib.hid (H4.out.keep hb)
  clear hb
  go_upto_region 3 with (fail)
  refine Agg.chainRD 6 (by kernel_rfl) (by kernel_rfl) ?_
  simp only [List.take_succ_cons, List.take_zero, List.drop_succ_cons, List.drop_zero]
  refine Agg.chRowB 2 H3.out rfl (by decide +kernel) rfl rfl rfl rfl ?_
  refine Agg.chCallG Try.func11 rfl (by kernel_rfl) (OwnP k1 (x1.take 200)) (OwnP.stable _ _) rfl rfl rfl rfl (fun W hb => own_P k1 x1 _ W (HX1.out.keep hb)) ?_
  refine Agg.chRowB 2 H4.out rfl (by decide +kernel) rfl rfl rfl rfl ?_
  refine Agg.chCallG Try.func11 rfl (by kernel_rfl) (OwnP k2 (x2.take 200)) (OwnP.stable _ _) rfl rfl rfl rfl (fun W hb => own_P k2 x2 _ W (HX2.out.keep hb)) ?_
  refine Agg.chAlloc #[.int .i64 0, .slice none 0 0] rfl (by kernel_rfl) rfl rfl ?_
  refine Agg.chAlloc #[.int .i64 0, .slice none 0 0] rfl (by kernel_rfl) rfl rfl ?_
  refine Agg.chEnd ?_
  intro vs w3 hb hf hap
  simp only [List.reverse, List.reverseAux, Agg.Facts] at hf
  obtain ⟨⟨u1, hu1, hb1⟩, ⟨u2, hu2, hb2⟩, ⟨b7, hv7, hs7, hk7⟩, ⟨b8, hv8, hs8, hk8⟩, _⟩ := hf
  simp only [List.reverse, List.reverseAux, Agg.fill, List.set_cons_succ, List.set_cons_zero, hu1, hu2, hv7, hv8]
  have h78 : b7 ≠ b8 := by
    have := hap 4 5 _ _ (by decide) rfl rfl rfl rfl rfl rfl
    rw [hv7, hv8] at this
    intro e
    exact this (by rw [e])
  clear hap hv7 hv8 hu1 hu2
  have hsz := HB.out.size
  replace HB := Lib.hid (HB.out.trans (hb.mono hsz))
  have h3l := H3.out.lt
  replace HX1 := Lib.hid (HX1.out.keep hb)
  replace H3 := Lib.hid (H3.out.keep hb)
  clear HX2 H4 hb
  obtain ⟨ys1, cs1, rfl, _, _⟩ := SlR.shape hb1
  obtain ⟨ys2, cs2, rfl, _, _⟩ := SlR.shape hb2
  refine Agg.tStore 2 hk7 rfl rfl rfl rfl rfl (by decide +kernel) rfl rfl (by simp [Value.oneCell']) (fun z1 hk7' hg7 => ?_)
  have hk8' := hk8.far' hg7 (Ne.symm h78)
  refine Agg.tStore 2 hk8' rfl rfl rfl rfl rfl (by decide +kernel) rfl rfl (by simp [Value.oneCell']) (fun z2 hk8'' hg8 => ?_)
  refine Agg.wpNil ?_
  have hz0 := page_far 0 (.slice none 0 0) (by intro z h; cases h)
  have HD1 := Lib.hid ((hb1.far hk7 hz0 hg7).far hk8' hz0 hg8)
  have HD2 := Lib.hid ((hb2.far hk7 hz0 hg7).far hk8' hz0 hg8)
  replace HX1 := Lib.hid ((HX1.out.far hk7 hz0 hg7).far hk8' hz0 hg8)
  replace H3 := Lib.hid ((H3.out.far' hg7 (by omega)).far' hg8 (by omega))
  have H7 := Lib.hid (hk7'.far' hg8 h78)
  have H8 := Lib.hid hk8''
  have hbz := HB.out.size
  replace HB := Lib.hid (HB.out.trans (grown_below hg7 hbz (fun j hj => (by cases hj; omega))))
  have hbz2 := HB.out.size
  replace HB := Lib.hid (HB.out.trans (grown_below hg8 hbz2 (fun j hj => (by cases hj; omega))))
  clear hz0 hb1 hb2 hk7 hk8 hk7' hk8' hk8'' hg7 hg8 hbz hbz2 hs7 hs8 h3l hsz h78
  obtain ⟨d1, hd1⟩ : ∃ d1, d1 = x1.take 200 := ⟨_, rfl⟩
  obtain ⟨d2, hd2⟩ : ∃ d2, d2 = x2.take 200 := ⟨_, rfl⟩
  rw [← hd1] at HD1 H7 ⊢
  rw [← hd2] at HD2 H8 ⊢
  have HDE := Lib.hid hd1
  clear hd1 hd2
  have xH7_0 := H7.out.cell 0
  have xH7_1 := H7.out.cell 1
  have lH7 := H7.out.lt
  simp only [List.getElem?_cons_zero, List.getElem?_cons_succ] at xH7_0 xH7_1
  go_wp2_with fail
  obtain ⟨sm, hsm⟩ : ∃ sm, decide (k1 = k2 ∧ d1 = d2) = sm := ⟨_, rfl⟩
  have hz1 := blkC_one zeroB
  by_cases hr : pageP k1 d1
  · have hr' := decide_eq_true hr
    clear xH7_0 xH7_1 lH7
    refine (right_any k1 d1 _ z2 HD1.out true hr').mono ?_
    rintro e w61 ⟨rfl, hb⟩
    replace HB := Lib.hid (HB.out.trans (hb.mono HB.out.size))
    replace HX1 := Lib.hid (HX1.out.keep hb)
    replace H3 := Lib.hid (H3.out.keep hb)
    replace HD1 := Lib.hid (HD1.out.keep hb)
    replace HD2 := Lib.hid (HD2.out.keep hb)
    replace H7 := Lib.hid (H7.out.keep hb)
    replace H8 := Lib.hid (H8.out.keep hb)
    clear hb
    clear hr'
    have xH7_0 := H7.out.cell 0
    have xH7_1 := H7.out.cell 1
    have lH7 := H7.out.lt
    simp only [List.getElem?_cons_zero, List.getElem?_cons_succ] at xH7_0 xH7_1
    go_wp2_with fail
    clear xH7_0 xH7_1 lH7
    refine (check_any k1 d1 _ w61 HD1.out 0 (if_pos hr)).mono ?_
    rintro e w62 ⟨rfl, hb⟩
    replace HB := Lib.hid (HB.out.trans (hb.mono HB.out.size))
    replace HX1 := Lib.hid (HX1.out.keep hb)
    replace H3 := Lib.hid (H3.out.keep hb)
    replace HD1 := Lib.hid (HD1.out.keep hb)
    replace HD2 := Lib.hid (HD2.out.keep hb)
    replace H7 := Lib.hid (H7.out.keep hb)
    replace H8 := Lib.hid (H8.out.keep hb)
    clear hb
    go_upto_region 6 with (fail)
    refine Agg.chainR 21 (by kernel_rfl) (by kernel_rfl) ?_
    simp only [List.take_succ_cons, List.take_zero, List.drop_succ_cons, List.drop_zero]
    refine Agg.chMove rfl rfl rfl rfl ?_
    refine Agg.chMove rfl rfl rfl rfl ?_
    refine Agg.chEq true (by decide) rfl rfl rfl rfl rfl ?_
    refine Agg.chNeB false Try.underlying4 rfl rfl rfl rfl rfl rfl ?_
    refine Agg.chMove rfl rfl rfl rfl ?_
    refine Agg.chMove rfl rfl rfl rfl ?_
    refine Agg.chNot rfl rfl rfl rfl ?_
    refine Agg.chMove rfl rfl rfl rfl ?_
    refine Agg.chSkip rfl rfl ?_
    refine Agg.chSkip rfl rfl ?_
    refine Agg.chPick rfl rfl rfl rfl rfl ?_
    refine Agg.chPick rfl rfl rfl rfl rfl ?_
    refine Agg.chMove rfl rfl rfl rfl ?_
    refine Agg.chRowB 2 H7.out rfl (by decide +kernel) rfl rfl rfl rfl ?_
    refine Agg.chRowB 2 H8.out rfl (by decide +kernel) rfl rfl rfl rfl ?_
    refine Agg.chCall Try.func14 rfl (by kernel_rfl) rfl rfl rfl rfl (fun W hb => same_any k1 k2 d1 d2 _ _ W (HD1.out.keep hb) (HD2.out.keep hb) sm hsm) ?_
    refine Agg.chRowB 2 H7.out rfl (by decide +kernel) rfl rfl rfl rfl ?_
    refine Agg.chRowB 2 H8.out rfl (by decide +kernel) rfl rfl rfl rfl ?_
    refine Agg.chCall Try.func15 rfl (by kernel_rfl) rfl rfl rfl rfl (fun W hb => rSame_any k1 k2 d1 d2 _ _ W (HD1.out.keep hb) (HD2.out.keep hb) sm hsm) ?_
    refine Agg.chNeB false Try.underlying4 (by simp) rfl rfl rfl rfl rfl ?_
    refine Agg.chPick rfl rfl rfl rfl rfl ?_
    refine Agg.chEnd ?_
    intro vs w63 hb _
    refine Agg.wpNil ?_
    simp only [List.reverse, List.reverseAux, Agg.fill, List.set_cons_succ, List.set_cons_zero]
    replace HB := Lib.hid (HB.out.trans (hb.mono HB.out.size))
    replace HX1 := Lib.hid (HX1.out.keep hb)
    replace H3 := Lib.hid (H3.out.keep hb)
    replace HD1 := Lib.hid (HD1.out.keep hb)
    replace HD2 := Lib.hid (HD2.out.keep hb)
    replace H7 := Lib.hid (H7.out.keep hb)
    replace H8 := Lib.hid (H8.out.keep hb)
    clear hb
    have xH7_0 := H7.out.cell 0
    have xH7_1 := H7.out.cell 1
    have lH7 := H7.out.lt
    simp only [List.getElem?_cons_zero, List.getElem?_cons_succ] at xH7_0 xH7_1
    go_wp2_with fail
    by_cases hs : stampP n
    · have hs' := decide_eq_true hs
      clear xH7_0 xH7_1 lH7
      refine (layP_any k1 d1 n _ w63 HD1.out (layB k1 d1 n) 0 (if_pos ⟨hr, hs⟩)).mono ?_
      rintro e w64 ⟨rfl, hb⟩
      replace HB := Lib.hid (HB.out.trans (hb.mono HB.out.size))
      replace HX1 := Lib.hid (HX1.out.keep hb)
      replace H3 := Lib.hid (H3.out.keep hb)
      replace HD1 := Lib.hid (HD1.out.keep hb)
      replace HD2 := Lib.hid (HD2.out.keep hb)
      replace H7 := Lib.hid (H7.out.keep hb)
      replace H8 := Lib.hid (H8.out.keep hb)
      clear hb
      have hbok := layB_bok k1 d1 n hr.2.2 hs
      have hl132 := bok_cells hbok
      have hl1 := blkC_one (layB k1 d1 n)
      have HOKK := Lib.hid hbok
      have HRR := Lib.hid hr
      clear hbok hr hs
      go_wp2_with (first
        | (refine Agg.allocRow 36 (blkC zeroB).toArray rfl rfl (by kernel_rfl) ?_; simp only [Act.put, List.setIfInBounds_toArray, List.set_cons_succ, List.set_cons_zero])
        | (refine Agg.gStoreNew 132 (blkC (layB k1 d1 n)) rfl rfl rfl rfl rfl rfl (by decide +kernel) hl132 (by simp [zero132]) hl1 ?_; simp only [Act.put]))
      refine Agg.calls_at fun w65 hw65 => ?_
      have hb : Below w64.heap.size w64 w65 := by rw [hw65.out]; repeat (first | exact Below.refl _ _ | refine Agg.bel_drew ?_ | refine Agg.bel_alloc ?_ _)
      replace HB := Lib.hid (HB.out.trans (hb.mono HB.out.size))
      replace HX1 := Lib.hid (HX1.out.keep hb)
      replace H3 := Lib.hid (H3.out.keep hb)
      replace HD1 := Lib.hid (HD1.out.keep hb)
      replace HD2 := Lib.hid (HD2.out.keep hb)
      replace H7 := Lib.hid (H7.out.keep hb)
      replace H8 := Lib.hid (H8.out.keep hb)
      clear hb
      have H11 : Hid (Blk w65 w64.heap.size 36 (blkC (layB k1 d1 n))) := by show Blk _ _ _ _; rw [hw65.out]; exact Blk.new w64 36 (blkC (layB k1 d1 n)).toArray
      clear hw65
      generalize w64.heap.size = g11 at *
      refine (stamped_any n w65 true hs').mono ?_
      rintro e w66 ⟨rfl, hb⟩
      replace HB := Lib.hid (HB.out.trans (hb.mono HB.out.size))
      replace HX1 := Lib.hid (HX1.out.keep hb)
      replace H3 := Lib.hid (H3.out.keep hb)
      replace HD1 := Lib.hid (HD1.out.keep hb)
      replace HD2 := Lib.hid (HD2.out.keep hb)
      replace H7 := Lib.hid (H7.out.keep hb)
      replace H8 := Lib.hid (H8.out.keep hb)
      replace H11 := Lib.hid (H11.out.keep hb)
      clear hb
      go_upto_region 11 with (fail)
      refine Agg.chainR 16 (by kernel_rfl) (by kernel_rfl) ?_
      simp only [List.take_succ_cons, List.take_zero, List.drop_succ_cons, List.drop_zero]
      refine Agg.chMove rfl rfl rfl rfl ?_
      refine Agg.chEq true (by decide) rfl rfl rfl rfl rfl ?_
      refine Agg.chMove rfl rfl rfl rfl ?_
      refine Agg.chRowB 132 H11 hl132 (by decide +kernel) rfl rfl rfl rfl ?_
      refine Agg.chRowB 2 H7.out rfl (by decide +kernel) rfl rfl rfl rfl ?_
      refine Agg.chMove rfl rfl rfl rfl ?_
      refine Agg.chCall Try.func18 rfl (by kernel_rfl) rfl rfl rfl rfl (fun W hb => rLay_any k1 d1 n _ W (HD1.out.keep hb) HRR.out) ?_
      refine Agg.chBin (v := .bool true) rfl rfl rfl rfl rfl (fun w => flatBlk.gd .eql _ _ _ _ w) (fun w => blk_eql _ _ HOKK.out HOKK.out true (by simp) w) ?_
      refine Agg.chPick rfl rfl rfl rfl rfl ?_
      refine Agg.chMove rfl rfl rfl rfl ?_
      refine Agg.chRowB 2 H7.out rfl (by decide +kernel) rfl rfl rfl rfl ?_
      refine Agg.chRowB 2 H3.out rfl (by decide +kernel) rfl rfl rfl rfl ?_
      refine Agg.chCallG Try.func11 rfl (by kernel_rfl) (OwnP k1 (x1.take 200)) (OwnP.stable _ _) rfl rfl rfl rfl (fun W hb => own_P k1 x1 _ W (HX1.out.keep hb)) ?_
      refine Agg.chCall2 Try.func15 rfl (by kernel_rfl) (.bool true) 12 rfl rfl rfl rfl rfl rfl rfl (fun u W hb ⟨u', hu, hq⟩ => by subst hu; exact rSame_any k1 k1 d1 (x1.take 200) _ u' W (HD1.out.keep hb) hq true (by rw [HDE.out]; simp)) ?_
      refine Agg.chPick rfl rfl rfl rfl rfl ?_
      refine Agg.chAssign rfl rfl rfl rfl ?_
      refine Agg.chEnd ?_
      intro vs w67 hb _
      refine Agg.wpNil ?_
      simp only [List.reverse, List.reverseAux, Agg.fill, List.set_cons_succ, List.set_cons_zero]
      replace HB := Lib.hid (HB.out.trans (hb.mono HB.out.size))
      replace HX1 := Lib.hid (HX1.out.keep hb)
      replace H3 := Lib.hid (H3.out.keep hb)
      replace HD1 := Lib.hid (HD1.out.keep hb)
      replace HD2 := Lib.hid (HD2.out.keep hb)
      replace H7 := Lib.hid (H7.out.keep hb)
      replace H8 := Lib.hid (H8.out.keep hb)
      replace H11 := Lib.hid (H11.out.keep hb)
      clear hb
      go_wp2_with fail
      go_ret
      exact ⟨rfl, HB.out⟩
    · have hs' := decide_eq_false hs
      have hnn : ¬ (pageP k1 d1 ∧ stampP n) := fun h => hs h.2
      clear xH7_0 xH7_1 lH7
      refine (layP_any k1 d1 n _ w63 HD1.out zeroB 2 (if_neg hnn)).mono ?_
      rintro e w68 ⟨rfl, hb⟩
      replace HB := Lib.hid (HB.out.trans (hb.mono HB.out.size))
      replace HX1 := Lib.hid (HX1.out.keep hb)
      replace H3 := Lib.hid (H3.out.keep hb)
      replace HD1 := Lib.hid (HD1.out.keep hb)
      replace HD2 := Lib.hid (HD2.out.keep hb)
      replace H7 := Lib.hid (H7.out.keep hb)
      replace H8 := Lib.hid (H8.out.keep hb)
      clear hb
      clear hs hnn
      go_wp2_with (first
        | (refine Agg.allocRow 36 (blkC zeroB).toArray rfl rfl (by kernel_rfl) ?_; simp only [Act.put, List.setIfInBounds_toArray, List.set_cons_succ, List.set_cons_zero])
        | (refine Agg.gStoreNew 132 (blkC zeroB) rfl rfl rfl rfl rfl rfl (by decide +kernel) zero132 (by simp [zero132]) hz1 ?_; simp only [Act.put]))
      refine Agg.calls_at fun w69 hw69 => ?_
      have hb : Below w68.heap.size w68 w69 := by rw [hw69.out]; repeat (first | exact Below.refl _ _ | refine Agg.bel_drew ?_ | refine Agg.bel_alloc ?_ _)
      replace HB := Lib.hid (HB.out.trans (hb.mono HB.out.size))
      replace HX1 := Lib.hid (HX1.out.keep hb)
      replace H3 := Lib.hid (H3.out.keep hb)
      replace HD1 := Lib.hid (HD1.out.keep hb)
      replace HD2 := Lib.hid (HD2.out.keep hb)
      replace H7 := Lib.hid (H7.out.keep hb)
      replace H8 := Lib.hid (H8.out.keep hb)
      clear hb
      have H11 : Hid (Blk w69 w68.heap.size 36 (blkC zeroB)) := by show Blk _ _ _ _; rw [hw69.out]; exact Blk.new w68 36 (blkC zeroB).toArray
      clear hw69
      generalize w68.heap.size = g11 at *
      refine (stamped_any n w69 false hs').mono ?_
      rintro e w70 ⟨rfl, hb⟩
      replace HB := Lib.hid (HB.out.trans (hb.mono HB.out.size))
      replace H11 := Lib.hid (H11.out.keep hb)
      clear hb
      go_upto_region 10 with (fail)
      refine Agg.listR 8 (by kernel_rfl) ?_
      simp only [List.take_succ_cons, List.take_zero, List.drop_succ_cons, List.drop_zero]
      refine Agg.chRowB 132 H11 zero132 (by decide +kernel) rfl rfl rfl rfl ?_
      refine Agg.chBuild (v := .agg (blkC zeroB).toArray) rfl rfl rfl rfl (fun _ => by kernel_rfl) ?_
      refine Agg.chBin (v := .bool true) rfl rfl rfl rfl rfl (fun w => flatBlk.gd .eql _ _ _ _ w) (fun w => blk_eql _ _ zero_bok zero_bok true (by simp) w) ?_
      refine Agg.chMove rfl rfl rfl rfl ?_
      refine Agg.chMove rfl rfl rfl rfl ?_
      refine Agg.chEq true (by decide) rfl rfl rfl rfl rfl ?_
      refine Agg.chPick rfl rfl rfl rfl rfl ?_
      refine Agg.chAssign rfl rfl rfl rfl ?_
      refine Agg.chEnd ?_
      intro vs w71 hb _
      show Exit.then _ _ Exit.normal _ _
      simp only [List.reverse, List.reverseAux, Agg.fill, List.set_cons_succ, List.set_cons_zero]
      replace HB := Lib.hid (HB.out.trans (hb.mono HB.out.size))
      replace H11 := Lib.hid (H11.out.keep hb)
      clear hb
      go_wp2_with fail
      go_ret
      exact ⟨rfl, HB.out⟩
  · have hr' := decide_eq_false hr
    clear xH7_0 xH7_1 lH7
    refine (right_any k1 d1 _ z2 HD1.out false hr').mono ?_
    rintro e w72 ⟨rfl, hb⟩
    replace HB := Lib.hid (HB.out.trans (hb.mono HB.out.size))
    replace HX1 := Lib.hid (HX1.out.keep hb)
    replace H3 := Lib.hid (H3.out.keep hb)
    replace HD1 := Lib.hid (HD1.out.keep hb)
    replace HD2 := Lib.hid (HD2.out.keep hb)
    replace H7 := Lib.hid (H7.out.keep hb)
    replace H8 := Lib.hid (H8.out.keep hb)
    clear hb
    clear hr'
    have xH7_0 := H7.out.cell 0
    have xH7_1 := H7.out.cell 1
    have lH7 := H7.out.lt
    simp only [List.getElem?_cons_zero, List.getElem?_cons_succ] at xH7_0 xH7_1
    go_wp2_with fail
    clear xH7_0 xH7_1 lH7
    refine (check_any k1 d1 _ w72 HD1.out 2 (if_neg hr)).mono ?_
    rintro e w73 ⟨rfl, hb⟩
    replace HB := Lib.hid (HB.out.trans (hb.mono HB.out.size))
    replace HX1 := Lib.hid (HX1.out.keep hb)
    replace H3 := Lib.hid (H3.out.keep hb)
    replace HD1 := Lib.hid (HD1.out.keep hb)
    replace HD2 := Lib.hid (HD2.out.keep hb)
    replace H7 := Lib.hid (H7.out.keep hb)
    replace H8 := Lib.hid (H8.out.keep hb)
    clear hb
    go_upto_region 6 with (fail)
    refine Agg.chainR 21 (by kernel_rfl) (by kernel_rfl) ?_
    simp only [List.take_succ_cons, List.take_zero, List.drop_succ_cons, List.drop_zero]
    refine Agg.chMove rfl rfl rfl rfl ?_
    refine Agg.chMove rfl rfl rfl rfl ?_
    refine Agg.chEq false (by decide) rfl rfl rfl rfl rfl ?_
    refine Agg.chNeB false Try.underlying4 rfl rfl rfl rfl rfl rfl ?_
    refine Agg.chMove rfl rfl rfl rfl ?_
    refine Agg.chMove rfl rfl rfl rfl ?_
    refine Agg.chNot rfl rfl rfl rfl ?_
    refine Agg.chMove rfl rfl rfl rfl ?_
    refine Agg.chMove rfl rfl rfl rfl ?_
    refine Agg.chNe false (by decide) rfl rfl rfl rfl rfl ?_
    refine Agg.chPick rfl rfl rfl rfl rfl ?_
    refine Agg.chPick rfl rfl rfl rfl rfl ?_
    refine Agg.chMove rfl rfl rfl rfl ?_
    refine Agg.chRowB 2 H7.out rfl (by decide +kernel) rfl rfl rfl rfl ?_
    refine Agg.chRowB 2 H8.out rfl (by decide +kernel) rfl rfl rfl rfl ?_
    refine Agg.chCall Try.func14 rfl (by kernel_rfl) rfl rfl rfl rfl (fun W hb => same_any k1 k2 d1 d2 _ _ W (HD1.out.keep hb) (HD2.out.keep hb) sm hsm) ?_
    refine Agg.chRowB 2 H7.out rfl (by decide +kernel) rfl rfl rfl rfl ?_
    refine Agg.chRowB 2 H8.out rfl (by decide +kernel) rfl rfl rfl rfl ?_
    refine Agg.chCall Try.func15 rfl (by kernel_rfl) rfl rfl rfl rfl (fun W hb => rSame_any k1 k2 d1 d2 _ _ W (HD1.out.keep hb) (HD2.out.keep hb) sm hsm) ?_
    refine Agg.chNeB false Try.underlying4 (by simp) rfl rfl rfl rfl rfl ?_
    refine Agg.chPick rfl rfl rfl rfl rfl ?_
    refine Agg.chEnd ?_
    intro vs w74 hb _
    refine Agg.wpNil ?_
    simp only [List.reverse, List.reverseAux, Agg.fill, List.set_cons_succ, List.set_cons_zero]
    replace HB := Lib.hid (HB.out.trans (hb.mono HB.out.size))
    replace HX1 := Lib.hid (HX1.out.keep hb)
    replace H3 := Lib.hid (H3.out.keep hb)
    replace HD1 := Lib.hid (HD1.out.keep hb)
    replace HD2 := Lib.hid (HD2.out.keep hb)
    replace H7 := Lib.hid (H7.out.keep hb)
    replace H8 := Lib.hid (H8.out.keep hb)
    clear hb
    have xH7_0 := H7.out.cell 0
    have xH7_1 := H7.out.cell 1
    have lH7 := H7.out.lt
    simp only [List.getElem?_cons_zero, List.getElem?_cons_succ] at xH7_0 xH7_1
    go_wp2_with fail
    have hnn : ¬ (pageP k1 d1 ∧ stampP n) := fun h => hr h.1
    clear xH7_0 xH7_1 lH7
    refine (layP_any k1 d1 n _ w74 HD1.out zeroB 2 (if_neg hnn)).mono ?_
    rintro e w75 ⟨rfl, hb⟩
    replace HB := Lib.hid (HB.out.trans (hb.mono HB.out.size))
    replace HX1 := Lib.hid (HX1.out.keep hb)
    replace H3 := Lib.hid (H3.out.keep hb)
    replace HD1 := Lib.hid (HD1.out.keep hb)
    replace HD2 := Lib.hid (HD2.out.keep hb)
    replace H7 := Lib.hid (H7.out.keep hb)
    replace H8 := Lib.hid (H8.out.keep hb)
    clear hb
    clear hr hnn
    go_upto_region 10 with (first
      | (refine Agg.allocRow 36 (blkC zeroB).toArray rfl rfl (by kernel_rfl) ?_; simp only [Act.put, List.setIfInBounds_toArray, List.set_cons_succ, List.set_cons_zero])
      | (refine Agg.gStoreNew 132 (blkC zeroB) rfl rfl rfl rfl rfl rfl (by decide +kernel) zero132 (by simp [zero132]) hz1 ?_; simp only [Act.put]))
    refine Agg.wp_at fun w76 hw76 => ?_
    have hb : Below w75.heap.size w75 w76 := by rw [hw76.out]; repeat (first | exact Below.refl _ _ | refine Agg.bel_drew ?_ | refine Agg.bel_alloc ?_ _)
    replace HB := Lib.hid (HB.out.trans (hb.mono HB.out.size))
    replace HX1 := Lib.hid (HX1.out.keep hb)
    replace H3 := Lib.hid (H3.out.keep hb)
    replace HD1 := Lib.hid (HD1.out.keep hb)
    replace HD2 := Lib.hid (HD2.out.keep hb)
    replace H7 := Lib.hid (H7.out.keep hb)
    replace H8 := Lib.hid (H8.out.keep hb)
    clear hb
    have H11 : Hid (Blk w76 w75.heap.size 36 (blkC zeroB)) := by show Blk _ _ _ _; rw [hw76.out]; exact Blk.new w75 36 (blkC zeroB).toArray
    clear hw76
    generalize w75.heap.size = g11 at *
    refine Agg.listR 8 (by kernel_rfl) ?_
    simp only [List.take_succ_cons, List.take_zero, List.drop_succ_cons, List.drop_zero]
    refine Agg.chRowB 132 H11 zero132 (by decide +kernel) rfl rfl rfl rfl ?_
    refine Agg.chBuild (v := .agg (blkC zeroB).toArray) rfl rfl rfl rfl (fun _ => by kernel_rfl) ?_
    refine Agg.chBin (v := .bool true) rfl rfl rfl rfl rfl (fun w => flatBlk.gd .eql _ _ _ _ w) (fun w => blk_eql _ _ zero_bok zero_bok true (by simp) w) ?_
    refine Agg.chMove rfl rfl rfl rfl ?_
    refine Agg.chMove rfl rfl rfl rfl ?_
    refine Agg.chEq true (by decide) rfl rfl rfl rfl rfl ?_
    refine Agg.chPick rfl rfl rfl rfl rfl ?_
    refine Agg.chAssign rfl rfl rfl rfl ?_
    refine Agg.chEnd ?_
    intro vs w77 hb _
    show Exit.then _ _ Exit.normal _ _
    simp only [List.reverse, List.reverseAux, Agg.fill, List.set_cons_succ, List.set_cons_zero]
    replace HB := Lib.hid (HB.out.trans (hb.mono HB.out.size))
    replace H11 := Lib.hid (H11.out.keep hb)
    clear hb
    go_wp2_with fail
    go_ret
    exact ⟨rfl, HB.out⟩
theorem u64_wf {z : Int} (h : (Lit.int .u64 z).wf = true) : ∃ n : Nat, z = (n : Int) ∧ n < 18446744073709551616 := by
  simp only [Lit.wf, Bool.and_eq_true, IntKind.min, IntKind.max, IntKind.signed, IntKind.bits] at h
  have h2 : 0 ≤ z ∧ z ≤ 18446744073709551615 := by simpa using h
  exact ⟨z.toNat, by omega, by omega⟩
theorem PageLays_walk (c0 : Array Value) (f0 : Nat) (c1 : Array Value) (f1 : Nat) (z : Int) (w : World) (h0 : Agg.Good Try.prog w f0 24 c0.toList) (h1 : Agg.Good Try.prog w f1 24 c1.toList) (hz : (Lit.int .u64 z).wf = true) :
    Calls Try.prog 3 #[.agg c0, .agg c1, .int .u64 z] w fun e w' => e = .returned (.bool true) ∧ Below w.heap.size w w' := by
  obtain ⟨k1, v1, x1, rfl, q1, _, _⟩ := good_page h0
  obtain ⟨k2, v2, x2, rfl, q2, _, _⟩ := good_page h1
  obtain ⟨n, rfl, hn⟩ := u64_wf hz
  exact lays_any k1 k2 x1 x2 v1 v2 n hn w q1 q2
end Go.Proofs.Ytoeofoihkkhpfaa
