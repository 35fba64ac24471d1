/-
  THE WALK OF LAYER 23's STATEMENT RootData.
-/
import Derived.Test.YtjnnnnolikbjcaaRtN4
import Derived.Test.YtjnnnnolikbjcaaRtL2
namespace Go.Proofs.Ytjnnnnolikbjcaa
open Go.ChangeShapes Go.WideShapes Go.ChangeAt Go.RowKit Agg Pg Dv
attribute [local go_sem] Oper.semAt_some

/-- what a call gives: a root of its own -/
def RtOV (base : Nat) (r : Rt) : Value → World → Prop := fun v w => RtO base w v r
theorem RtOV.stable (base : Nat) (r : Rt) : Stable (RtOV base r) := fun _ _ _ h hb => RtO.keep h hb
def BytesV (l : List UInt8) : Value → World → Prop := fun v w => Bytes w v l
theorem BytesV.stable (l : List UInt8) : Stable (BytesV l) := fun _ _ _ h hb => SlR.keep h hb

set_option maxHeartbeats 8000000 in
set_option maxRecDepth 100000 in
theorem RootData_walk (c0 : Array Value) (f0 : Nat) (c1 : Array Value) (f1 : Nat) (n1 n2 : Int) (v3 : Value) (l3 : List UInt8) (w : World) (g0 : Agg.Good Try.prog w f0 26 c0.toList) (g1 : Agg.Good Try.prog w f1 26 c1.toList) (w1 : (Lit.int .i64 n1).wf = true) (w2 : (Lit.int .u64 n2).wf = true) (y3 : Bytes w v3 l3) (_m3 : l3.length ≤ maxLen) :
    Calls Try.prog 5 #[.agg c0, .agg c1, .int .i64 n1, .int .u64 n2, v3] w fun e w' => e = .returned (.bool true) ∧ Below w.heap.size w w' := by
  obtain ⟨r0, hR0, hG0⟩ := good_rt g0
  obtain ⟨r1, hR1, hG1⟩ := good_rt g1
  obtain ⟨hs1, hs2⟩ := i64_range w1
  obtain ⟨st, rfl, hst⟩ := u64_nat w2
  obtain ⟨y, yc, rfl, hy1, hy2⟩ := SlR.shape y3
  unfold maxLen at hy2
  have HOW := Lib.hid (fun W v h => rown_any r0 v W h)
  have HOX := Lib.hid (fun W v h => rown_any r1 v W h)
  have hrw := ownR_w hG0
  obtain ⟨r, hrd⟩ : ∃ r, ownR r0 = r := ⟨_, rfl⟩
  rw [hrd] at HOW hrw
  obtain ⟨s, hsd⟩ : ∃ r, ownR r1 = r := ⟨_, rfl⟩
  rw [hsd] at HOX
  have HDT := Lib.hid (fun W v h => rtData_any r v W h hrw)
  have HRG := Lib.hid (fun W v h => dRight_any r v W h hrw)
  have HCK := Lib.hid (fun W v h => rtCheck_any r v W h hrw)
  obtain ⟨q, hq⟩ : ∃ q, rightB r = q := ⟨_, rfl⟩
  rw [hq] at HDT HRG HCK
  have HQR := Lib.hid hq
  obtain ⟨LB, hLB⟩ : ∃ l : List UInt8, (if q = true then dataR r else []) = l := ⟨_, rfl⟩
  obtain ⟨eq, heq⟩ : ∃ e : Int, (if q = true then (0 : Int) else 330) = e := ⟨_, rfl⟩
  rw [hLB, heq] at HDT
  rw [heq] at HCK
  have HLB := Lib.hid hLB
  obtain ⟨nl, hnl⟩ : ∃ k, LB.length = k := ⟨_, rfl⟩
  have HNL := Lib.hid hnl
  have HEQ := Lib.hid heq
  clear hLB heq hnl
  obtain ⟨t, ht⟩ : ∃ t, decide (r = s) = t := ⟨_, rfl⟩
  have HSA := Lib.hid (fun W a b h1 h2 => sameR_any r s a b W h1 h2 t ht)
  have HSB := Lib.hid (fun W a b h1 h2 => dSame_any r s a b W h1 h2 t ht)
  obtain ⟨sl0, hv0, hi0⟩ := hR0.ex
  obtain ⟨x0, xc0, rfl, _, _⟩ := ints_shape hi0
  obtain ⟨sl1, hv1, hi1⟩ := hR1.ex
  obtain ⟨x1, xc1, rfl, _, _⟩ := ints_shape hi1
  have HV0 := Lib.hid hR0
  have HV1 := Lib.hid hR1
  unfold rtV at hv0 hv1
  rw [hv0] at HV0 ⊢
  rw [hv1] at HV1 ⊢
  obtain ⟨n, hn⟩ : ∃ k, min l3.length 200 = k := ⟨_, rfl⟩
  have hmim : min (l3.length : Int) 200 = (n : Int) := by omega
  have hn1 : n ≤ l3.length := by omega
  have hn7 : n ≤ 200 := by omega
  obtain ⟨D, hD⟩ : ∃ D, l3.take n = D := ⟨_, rfl⟩
  have hDl : D.length = n := by rw [← hD, List.length_take]; omega
  obtain ⟨o, ho⟩ : ∃ o, parseR n1 st D = o := ⟨_, rfl⟩
  have HPB := Lib.hid (fun W u h => parse_any n1 st D u W h (by omega) hs1 hs2 hst o ho)
  have HPC := Lib.hid (fun W u h => dParse_any n1 st D u W h (by omega) hs1 hs2 hst o ho)
  have HY : Hid (SlR w (.slice y l3.length yc) 1 l3.length (bv l3)) := Lib.hid y3
  have HD := Lib.hid hD
  have HDL := Lib.hid hDl
  clear g0 g1 hR0 hR1 hG0 hG1 hrd hsd hrw hq hv0 hv1 hi0 hi1 hn hD hDl ho y3 w1 w2 ht
  have HB := Lib.hid (Below.refl w.heap.size w)
  go_enter Try.func5, Try.ntmps5
  go_upto_region 1 with (fail)
  refine Agg.wp_at fun w1 hw1 => ?_
  have hb : Below w.heap.size w w1 := by rw [hw1.out]; repeat (first | exact Below.refl _ _ | refine Agg.bel_drew ?_ | refine Agg.bel_alloc ?_ _)
  replace HB := Lib.hid (HB.out.trans (hb.mono HB.out.size))
  replace HV0 := Lib.hid (HV0.out.keep hb)
  replace HV1 := Lib.hid (HV1.out.keep hb)
  replace HY := Lib.hid (HY.out.keep hb)
  clear hb
  have H5 : Hid (Blk w1 w.heap.size 26 [.int .i64 r0.slot, .int .u64 (r0.stamp : Int), .slice x0 r0.pages.length xc0, .int .i64 r0.bytes]) := by show Blk _ _ _ _; rw [hw1.out]; exact (Blk.new w 26 #[.int .i64 r0.slot, .int .u64 (r0.stamp : Int), .slice x0 r0.pages.length xc0, .int .i64 r0.bytes]).al _
  have H6 : Hid (Blk w1 (w.heap.size + 1) 26 [.int .i64 r1.slot, .int .u64 (r1.stamp : Int), .slice x1 r1.pages.length xc1, .int .i64 r1.bytes]) := by show Blk _ _ _ _; rw [hw1.out]; exact Blk.newAt (w.alloc _) 26 #[.int .i64 r1.slot, .int .u64 (r1.stamp : Int), .slice x1 r1.pages.length xc1, .int .i64 r1.bytes] _ (by simp)
  clear hw1
  go_wp2_with fail
  refine (wakes_any w1).mono ?_
  rintro e w2 ⟨rfl, hb⟩
  replace HB := Lib.hid (HB.out.trans (hb.mono HB.out.size))
  replace HV0 := Lib.hid (HV0.out.keep hb)
  replace HV1 := Lib.hid (HV1.out.keep hb)
  replace HY := Lib.hid (HY.out.keep hb)
  replace H5 := Lib.hid (H5.out.keep hb)
  replace H6 := Lib.hid (H6.out.keep hb)
  clear hb
  go_upto_region 3 with (fail)
  refine Agg.chainRD 6 (by kernel_rfl) (by kernel_rfl) ?_
  simp only [List.take_succ_cons, List.take_zero, List.drop_succ_cons, List.drop_zero]
  refine Agg.chRowB 4 H5.out rfl (by decide +kernel) rfl rfl rfl rfl ?_
  refine Agg.chCallG Try.func13 rfl (by kernel_rfl) (RtOV w2.heap.size r) (RtOV.stable _ _) rfl rfl rfl rfl (fun W hb => (HOW.out W _ (RtR.keep HV0.out hb)).mono (by rintro e w2 ⟨u, rfl, hu, h2⟩; exact ⟨u, rfl, hu.base hb.size, h2⟩)) ?_
  refine Agg.chRowB 4 H6.out rfl (by decide +kernel) rfl rfl rfl rfl ?_
  refine Agg.chCallG Try.func13 rfl (by kernel_rfl) (RtOV w2.heap.size s) (RtOV.stable _ _) rfl rfl rfl rfl (fun W hb => (HOX.out W _ (RtR.keep HV1.out hb)).mono (by rintro e w2 ⟨u, rfl, hu, h2⟩; exact ⟨u, rfl, hu.base hb.size, h2⟩)) ?_
  refine Agg.chAlloc #[.int .i64 0, .int .u64 0, .slice none 0 0, .int .i64 0] rfl (by kernel_rfl) rfl rfl ?_
  refine Agg.chAlloc #[.int .i64 0, .int .u64 0, .slice none 0 0, .int .i64 0] rfl (by kernel_rfl) rfl rfl ?_
  refine Agg.chEnd ?_
  intro vs w3 hb hf hap
  simp only [List.reverse, List.reverseAux, Agg.Facts] at hf
  obtain ⟨hb1, hb2, ⟨b11, hv11, hs11, hk11⟩, ⟨b12, hv12, hs12, hk12⟩, _⟩ := hf
  simp only [List.reverse, List.reverseAux, Agg.fill, List.set_cons_succ, List.set_cons_zero, hv11, hv12]
  have h1112 : b11 ≠ b12 := by
    have := hap 4 5 _ _ (by decide) rfl rfl rfl rfl rfl rfl
    rw [hv11, hv12] at this
    intro e
    exact this (by rw [e])
  clear hap hv11 hv12
  obtain ⟨sla, hua, hoa⟩ := hb1
  obtain ⟨xa, xac, rfl, _, _⟩ := (ownSl hoa).shape
  obtain ⟨slb, hub, hob⟩ := hb2
  obtain ⟨xb, xbc, rfl, _, _⟩ := (ownSl hob).shape
  unfold rtV at hua hub
  simp only [hua, hub]
  refine Agg.tStore 4 hk11 rfl rfl rfl rfl rfl (by decide +kernel) rfl rfl (by simp [Value.oneCell']) (fun z1 hk11' hg7 => ?_)
  have hk12' := hk12.far' hg7 (Ne.symm h1112)
  refine Agg.tStore 4 hk12' rfl rfl rfl rfl rfl (by decide +kernel) rfl rfl (by simp [Value.oneCell']) (fun z2 hk12'' hg8 => ?_)
  have hk11'' := hk11'.far' hg8 h1112
  have hoa2 := (hoa.kept hg7 (own_apart hoa hk11 (by decide))).kept hg8 (own_apart (hoa.kept hg7 (own_apart hoa hk11 (by decide))) hk12' (by decide))
  have hob2 := (hob.kept hg7 (own_apart hob hk11 (by decide))).kept hg8 (own_apart (hob.kept hg7 (own_apart hob hk11 (by decide))) hk12' (by decide))
  have hbk := (hb.trans (grown_below hg7 hb.size (fun k e => by cases e; exact hs11))).trans (grown_below hg8 (hb.trans (grown_below hg7 hb.size (fun k e => by cases e; exact hs11))).size (fun k e => by cases e; exact hs12))
  clear hb HV0 HV1 H5 H6
  have hb := hbk
  replace HB := Lib.hid (HB.out.trans (hb.mono HB.out.size))
  replace HY := Lib.hid (HY.out.keep hb)
  clear hb
  have HVa : Hid (RtR z2 (.agg #[.int .i64 r.slot, .int .u64 (r.stamp : Int), .slice xa r.pages.length xac, .int .i64 r.bytes]) r) := Lib.hid ⟨_, rfl, ownSl hoa2⟩
  have HVb : Hid (RtR z2 (.agg #[.int .i64 s.slot, .int .u64 (s.stamp : Int), .slice xb s.pages.length xbc, .int .i64 s.bytes]) s) := Lib.hid ⟨_, rfl, ownSl hob2⟩
  have H11 := Lib.hid hk11''
  have H12 := Lib.hid hk12''
  clear hbk hoa hob hoa2 hob2 hk11 hk11' hk11'' hk12 hk12' hk12'' hg7 hg8 hua hub hs11 hs12 HOW HOX
  refine Agg.wpNil ?_
  have h11 := H11.out
  go_wp2_with (refine Agg.gLoadB 4 h11 rfl rfl rfl rfl (by decide +kernel) ?_; simp only [Act.put, List.setIfInBounds_toArray, List.set_cons_succ, List.set_cons_zero])
  clear h11
  refine (HRG.out z2 _ HVa.out).mono ?_
  rintro e w4 ⟨rfl, hb⟩
  replace HB := Lib.hid (HB.out.trans (hb.mono HB.out.size))
  replace HY := Lib.hid (HY.out.keep hb)
  replace HVa := Lib.hid (HVa.out.keep hb)
  replace HVb := Lib.hid (HVb.out.keep hb)
  replace H11 := Lib.hid (H11.out.keep hb)
  replace H12 := Lib.hid (H12.out.keep hb)
  clear hb
  have h11 := H11.out
  go_wp2_with (refine Agg.gLoadB 4 h11 rfl rfl rfl rfl (by decide +kernel) ?_; simp only [Act.put, List.setIfInBounds_toArray, List.set_cons_succ, List.set_cons_zero])
  clear h11
  refine (HCK.out w4 _ HVa.out).mono ?_
  rintro e w5 ⟨rfl, hb⟩
  replace HB := Lib.hid (HB.out.trans (hb.mono HB.out.size))
  replace HY := Lib.hid (HY.out.keep hb)
  replace HVa := Lib.hid (HVa.out.keep hb)
  replace HVb := Lib.hid (HVb.out.keep hb)
  replace H11 := Lib.hid (H11.out.keep hb)
  replace H12 := Lib.hid (H12.out.keep hb)
  clear hb
  go_upto_region 6 with (fail)
  obtain ⟨wZ, hwZ⟩ : ∃ x, x = w5 := ⟨_, rfl⟩
  subst hwZ
  have HBZ := HB
  have HYZ := HY
  have HVaZ := HVa
  have HVbZ := HVb
  have H11Z := H11
  have H12Z := H12
  clear HB HY HVa HVb H11 H12
  go_cut [51] from 31 to 51 (fun s' wx => s' = .bool false ∧ Below wZ.heap.size wZ wx)
  case first =>
    have HB := Lib.hid (Below.refl wZ.heap.size wZ)
    have HVa := HVaZ
    have HVb := HVbZ
    have H11 := H11Z
    have H12 := H12Z
    rcases (show q = true ∨ q = false by cases q <;> simp) with hq | hq
    · obtain rfl : eq = 0 := by rw [← HEQ.out, if_pos hq]
      subst hq
      refine Agg.chainR 21 (by kernel_rfl) (by kernel_rfl) ?_
      simp only [List.take_succ_cons, List.take_zero, List.drop_succ_cons, List.drop_zero]
      refine Agg.chMove rfl rfl rfl rfl ?_
      refine Agg.chMove rfl rfl rfl rfl ?_
      refine Agg.chEq true (by decide) rfl rfl rfl rfl rfl ?_
      refine Agg.chNeB false Try.underlying4 (by decide) rfl rfl rfl rfl rfl ?_
      refine Agg.chMove rfl rfl rfl rfl ?_
      refine Agg.chMove rfl rfl rfl rfl ?_
      refine Agg.chNot rfl rfl rfl rfl ?_
      refine Agg.chMove rfl rfl rfl rfl ?_
      refine Agg.chSkip rfl rfl ?_
      refine Agg.chSkip rfl rfl ?_
      refine Agg.chPick rfl rfl rfl rfl rfl ?_
      refine Agg.chPick rfl rfl rfl rfl rfl ?_
      refine Agg.chMove rfl rfl rfl rfl ?_
      refine Agg.chRowB 4 H11.out rfl (by decide +kernel) rfl rfl rfl rfl ?_
      refine Agg.chRowB 4 H12.out rfl (by decide +kernel) rfl rfl rfl rfl ?_
      refine Agg.chCall Try.func18 rfl (by kernel_rfl) rfl rfl rfl rfl (fun W hb => HSA.out W _ _ (RtR.keep HVa.out hb) (RtR.keep HVb.out hb)) ?_
      refine Agg.chRowB 4 H11.out rfl (by decide +kernel) rfl rfl rfl rfl ?_
      refine Agg.chRowB 4 H12.out rfl (by decide +kernel) rfl rfl rfl rfl ?_
      refine Agg.chCall Try.func22 rfl (by kernel_rfl) rfl rfl rfl rfl (fun W hb => HSB.out W _ _ (RtR.keep HVa.out hb) (RtR.keep HVb.out hb)) ?_
      refine Agg.chNeB false Try.underlying4 (by simp) rfl rfl rfl rfl rfl ?_
      refine Agg.chPick rfl rfl rfl rfl rfl ?_
      refine Agg.chEnd ?_
      intro vs w41 hb _
      refine Agg.wpNil ?_
      simp only [List.reverse, List.reverseAux, Agg.fill, List.set_cons_succ, List.set_cons_zero]
      replace HB := Lib.hid (HB.out.trans (hb.mono HB.out.size))
      replace HVa := Lib.hid (HVa.out.keep hb)
      replace HVb := Lib.hid (HVb.out.keep hb)
      replace H11 := Lib.hid (H11.out.keep hb)
      replace H12 := Lib.hid (H12.out.keep hb)
      clear hb
      go_wp2_with fail
      go_meet
      exact ⟨rfl, HB.out⟩
    · obtain rfl : eq = 330 := by rw [← HEQ.out, if_neg (by rw [hq]; decide)]
      subst hq
      refine Agg.chainR 21 (by kernel_rfl) (by kernel_rfl) ?_
      simp only [List.take_succ_cons, List.take_zero, List.drop_succ_cons, List.drop_zero]
      refine Agg.chMove rfl rfl rfl rfl ?_
      refine Agg.chMove rfl rfl rfl rfl ?_
      refine Agg.chEq false (by decide) rfl rfl rfl rfl rfl ?_
      refine Agg.chNeB false Try.underlying4 (by decide) rfl rfl rfl rfl rfl ?_
      refine Agg.chMove rfl rfl rfl rfl ?_
      refine Agg.chMove rfl rfl rfl rfl ?_
      refine Agg.chNot rfl rfl rfl rfl ?_
      refine Agg.chMove rfl rfl rfl rfl ?_
      refine Agg.chMove rfl rfl rfl rfl ?_
      refine Agg.chNe false (by decide) rfl rfl rfl rfl rfl ?_
      refine Agg.chPick rfl rfl rfl rfl rfl ?_
      refine Agg.chPick rfl rfl rfl rfl rfl ?_
      refine Agg.chMove rfl rfl rfl rfl ?_
      refine Agg.chRowB 4 H11.out rfl (by decide +kernel) rfl rfl rfl rfl ?_
      refine Agg.chRowB 4 H12.out rfl (by decide +kernel) rfl rfl rfl rfl ?_
      refine Agg.chCall Try.func18 rfl (by kernel_rfl) rfl rfl rfl rfl (fun W hb => HSA.out W _ _ (RtR.keep HVa.out hb) (RtR.keep HVb.out hb)) ?_
      refine Agg.chRowB 4 H11.out rfl (by decide +kernel) rfl rfl rfl rfl ?_
      refine Agg.chRowB 4 H12.out rfl (by decide +kernel) rfl rfl rfl rfl ?_
      refine Agg.chCall Try.func22 rfl (by kernel_rfl) rfl rfl rfl rfl (fun W hb => HSB.out W _ _ (RtR.keep HVa.out hb) (RtR.keep HVb.out hb)) ?_
      refine Agg.chNeB false Try.underlying4 (by simp) rfl rfl rfl rfl rfl ?_
      refine Agg.chPick rfl rfl rfl rfl rfl ?_
      refine Agg.chEnd ?_
      intro vs w42 hb _
      refine Agg.wpNil ?_
      simp only [List.reverse, List.reverseAux, Agg.fill, List.set_cons_succ, List.set_cons_zero]
      replace HB := Lib.hid (HB.out.trans (hb.mono HB.out.size))
      replace HVa := Lib.hid (HVa.out.keep hb)
      replace HVb := Lib.hid (HVb.out.keep hb)
      replace H11 := Lib.hid (H11.out.keep hb)
      replace H12 := Lib.hid (H12.out.keep hb)
      clear hb
      go_wp2_with fail
      go_meet
      exact ⟨rfl, HB.out⟩
  case rest =>
    obtain ⟨rfl, hbc⟩ := hcut
    have HB := Lib.hid (HBZ.out.trans (hbc.mono HBZ.out.size))
    have HY := Lib.hid (SlR.keep HYZ.out hbc)
    have HVa := Lib.hid (HVaZ.out.keep hbc)
    have H11 := Lib.hid (H11Z.out.keep hbc)
    clear hbc HBZ HYZ HVaZ HVbZ H11Z H12Z HSA HSB
    have h11 := H11.out
    go_wp2_with (refine Agg.gLoadB 4 h11 rfl rfl rfl rfl (by decide +kernel) ?_; simp only [Act.put, List.setIfInBounds_toArray, List.set_cons_succ, List.set_cons_zero])
    clear h11
    refine (HDT.out wc _ HVa.out).mono ?_
    rintro e w71 ⟨u, rfl, hu, hb⟩
    replace HB := Lib.hid (HB.out.trans (hb.mono HB.out.size))
    replace HY := Lib.hid (HY.out.keep hb)
    replace HVa := Lib.hid (HVa.out.keep hb)
    replace H11 := Lib.hid (H11.out.keep hb)
    clear hb
    have HUB := Lib.hid hu
    obtain ⟨ux, uc, rfl, _, _⟩ := SlR.shape hu
    clear hu HDT
    rw [HNL.out] at HUB ⊢
    go_upto_region 9 with (fail)
    obtain ⟨wY, hwY⟩ : ∃ x, x = w71 := ⟨_, rfl⟩
    subst hwY
    have HBZ := HB
    have HYZ := HY
    have HVaZ := HVa
    have H11Z := H11
    have HUBZ := HUB
    clear HB HY HVa H11 HUB
    go_cut [83] from 57 to 83 (fun s' wx => s' = .bool false ∧ Below wY.heap.size wY wx)
    case first =>
      have HB := Lib.hid (Below.refl wY.heap.size wY)
      have HVa := HVaZ
      have H11 := H11Z
      have HUB := HUBZ
      rcases (show q = true ∨ q = false by cases q <;> simp) with hq | hq
      · obtain rfl : eq = 0 := by rw [← HEQ.out, if_pos hq]
        obtain rfl : dataR r = LB := by rw [← HLB.out, if_pos hq]
        have HRR := Lib.hid ((right_iff r).1 (HQR.out.trans hq))
        subst hq
        refine Agg.listR 27 (by kernel_rfl) ?_
        simp only [List.take_succ_cons, List.take_zero, List.drop_succ_cons, List.drop_zero]
        refine Agg.chMove rfl rfl rfl rfl ?_
        refine Agg.chMove rfl rfl rfl rfl ?_
        refine Agg.chEq true (by decide) rfl rfl rfl rfl rfl ?_
        refine Agg.chNeB false Try.underlying4 (by decide) rfl rfl rfl rfl rfl ?_
        refine Agg.chMove rfl rfl rfl rfl ?_
        refine Agg.chMove rfl rfl rfl rfl ?_
        refine Agg.chMove rfl rfl rfl rfl ?_
        refine Agg.chMove rfl rfl rfl rfl ?_
        refine Agg.chRowB 4 H11.out rfl (by decide +kernel) rfl rfl rfl rfl ?_
        refine Agg.chCallG Try.func28 rfl (by kernel_rfl) (BytesV (dataR r)) (BytesV.stable _) rfl rfl rfl rfl (fun W hb => dData_any r _ W (RtR.keep HVa.out hb) HRR.out) ?_
        refine Agg.chCall2 Try.func27 rfl (by kernel_rfl) (.bool true) 9 rfl rfl rfl rfl rfl rfl rfl (fun u W hb hu => bEqual_any (dataR r) (dataR r) _ _ W (SlR.keep HUB.out hb) hu true (by simp)) ?_
        refine Agg.chNot rfl rfl rfl rfl ?_
        refine Agg.chPick rfl rfl rfl rfl rfl ?_
        refine Agg.chPick rfl rfl rfl rfl rfl ?_
        refine Agg.chMove rfl rfl rfl rfl ?_
        refine Agg.chMove rfl rfl rfl rfl ?_
        refine Agg.chNot rfl rfl rfl rfl ?_
        refine Agg.chMove rfl rfl rfl rfl ?_
        refine Agg.chSkip rfl rfl ?_
        refine Agg.chSkip rfl rfl ?_
        refine Agg.chSkip rfl rfl ?_
        refine Agg.chSkip rfl rfl ?_
        refine Agg.chSkip rfl rfl ?_
        refine Agg.chSkip rfl rfl ?_
        refine Agg.chSkip rfl rfl ?_
        refine Agg.chPick rfl rfl rfl rfl rfl ?_
        refine Agg.chPick rfl rfl rfl rfl rfl ?_
        refine Agg.chEnd ?_
        intro vs w81 hb _
        show Exit.then _ _ Exit.normal _ _
        simp only [List.reverse, List.reverseAux, Agg.fill, List.set_cons_succ, List.set_cons_zero]
        replace HB := Lib.hid (HB.out.trans (hb.mono HB.out.size))
        replace HVa := Lib.hid (HVa.out.keep hb)
        replace H11 := Lib.hid (H11.out.keep hb)
        replace HUB := Lib.hid (HUB.out.keep hb)
        clear hb
        go_wp2_with fail
        go_meet
        exact ⟨rfl, HB.out⟩
      · obtain rfl : eq = 330 := by rw [← HEQ.out, if_neg (by rw [hq]; decide)]
        have hnl0 : nl = 0 := by rw [← HNL.out, ← HLB.out, if_neg (by rw [hq]; decide)]; rfl
        have d23 : ((nl : Int) != 0) = false := by rw [hnl0]; rfl
        clear hnl0
        subst hq
        refine Agg.listR 27 (by kernel_rfl) ?_
        simp only [List.take_succ_cons, List.take_zero, List.drop_succ_cons, List.drop_zero]
        refine Agg.chMove rfl rfl rfl rfl ?_
        refine Agg.chMove rfl rfl rfl rfl ?_
        refine Agg.chEq false (by decide) rfl rfl rfl rfl rfl ?_
        refine Agg.chNeB false Try.underlying4 (by decide) rfl rfl rfl rfl rfl ?_
        refine Agg.chMove rfl rfl rfl rfl ?_
        refine Agg.chMove rfl rfl rfl rfl ?_
        refine Agg.chMove rfl rfl rfl rfl ?_
        refine Agg.chSkip rfl rfl ?_
        refine Agg.chSkip rfl rfl ?_
        refine Agg.chSkip rfl rfl ?_
        refine Agg.chSkip rfl rfl ?_
        refine Agg.chSkip rfl rfl ?_
        refine Agg.chPick rfl rfl rfl rfl rfl ?_
        refine Agg.chPick rfl rfl rfl rfl rfl ?_
        refine Agg.chMove rfl rfl rfl rfl ?_
        refine Agg.chMove rfl rfl rfl rfl ?_
        refine Agg.chNot rfl rfl rfl rfl ?_
        refine Agg.chMove rfl rfl rfl rfl ?_
        refine Agg.chMove rfl rfl rfl rfl ?_
        refine Agg.chNe false (by decide) rfl rfl rfl rfl rfl ?_
        refine Agg.chMove rfl rfl rfl rfl ?_
        refine Agg.chMove rfl rfl rfl rfl ?_
        refine Agg.chLen Try.underlying57 rfl rfl rfl rfl ?_
        refine Agg.chNe false d23 rfl rfl rfl rfl rfl ?_
        refine Agg.chPick rfl rfl rfl rfl rfl ?_
        refine Agg.chPick rfl rfl rfl rfl rfl ?_
        refine Agg.chPick rfl rfl rfl rfl rfl ?_
        refine Agg.chEnd ?_
        intro vs w82 hb _
        show Exit.then _ _ Exit.normal _ _
        simp only [List.reverse, List.reverseAux, Agg.fill, List.set_cons_succ, List.set_cons_zero]
        replace HB := Lib.hid (HB.out.trans (hb.mono HB.out.size))
        replace HVa := Lib.hid (HVa.out.keep hb)
        replace H11 := Lib.hid (H11.out.keep hb)
        replace HUB := Lib.hid (HUB.out.keep hb)
        clear hb
        go_wp2_with fail
        go_meet
        exact ⟨rfl, HB.out⟩
    case rest =>
      obtain ⟨rfl, hbc⟩ := hcut
      have HB := Lib.hid (HBZ.out.trans (hbc.mono HBZ.out.size))
      have HY := Lib.hid (SlR.keep HYZ.out hbc)
      clear hbc HBZ HYZ HVaZ H11Z HUBZ HRG HCK HLB HNL HEQ HQR
      go_upto_region 11 with (fail)
      have hbA : Below wc.heap.size wc (wc.alloc (.cells #[] 5)) := (Below.refl _ _).alloc (Nat.le_refl _) _
      have HLI := Lib.hid (World.ownsRow_lit (e := 5) (size := 1) (base := wc.heap.size) wc #[] 0 (Nat.le_refl _) (by decide) rfl)
      have HDA : Hid (SlR (wc.alloc (.cells #[] 5)) (.slice y n yc) 1 n (bv D)) := Lib.hid (by
        have h := rbytes_take HY.out n hn1
        rw [HD.out] at h
        exact SlR.keep h hbA)
      have hsu := Lib.hid (fun W : World => run_slice_upto ti25 y l3.length yc n (by omega) W)
      have hbw := Lib.hid (HB.out.trans (hbA.mono HB.out.size))
      have hli := HLI.out
      have hda := HDA.out
      have hone := bv_one' D
      have hsz : wc.heap.size ≤ (wc.alloc (.cells #[] 5)).heap.size := hbA.size
      clear hbA
      go_upto_region 12 with (first
        | (refine Agg.min2 _ _ _ (n : Int) rfl rfl rfl rfl hmim ?_; simp only [Act.put, List.setIfInBounds_toArray, List.set_cons_succ, List.set_cons_zero])
        | (refine Agg.gSliceUp (.slice y n yc) rfl rfl rfl rfl hsu.out ?_; simp only [Act.put, List.setIfInBounds_toArray, List.set_cons_succ, List.set_cons_zero])
        | (refine Agg.append2 ti25 _ _ rfl rfl wc.heap.size (v := .slice (some ⟨wc.heap.size, 0, none⟩) 0 0) rfl hli rfl hda hone (by unfold maxLen; omega) (by omega) hsz ?_; intro v3 w3 ho3 hg3 _; obtain ⟨x3, c3, rfl, _, _⟩ := (ownSl ho3).shape; simp only [Act.put, List.setIfInBounds_toArray, List.set_cons_succ, List.set_cons_zero]))
      have hob := own_block hli
      have HB3 := Lib.hid (hbw.out.trans (grown_below hg3 hbw.out.size (fun k e => Nat.le_trans HB.out.size (hob k e))))
      have HDB : Hid (Bytes w3 (.slice x3 (0 + n) c3) D) := Lib.hid (by
        have h := ownSl ho3
        show SlR _ _ 1 D.length (bv D)
        rw [HDL.out]
        rw [Nat.zero_add] at h ⊢
        exact h)
      rw [Nat.zero_add] at HDB ⊢
      clear hg3 ho3 hob hli hda hone hsz hbw hsu HLI HDA HB HY
      have HB := HB3
      obtain ⟨op, hop⟩ : ∃ x, o.getD rt0 = x := ⟨_, rfl⟩
      obtain ⟨ec, hec⟩ : ∃ e : Int, (if o.isSome = true then (0 : Int) else 330) = e := ⟨_, rfl⟩
      obtain ⟨bc, hbc⟩ : ∃ b : Bool, o.isSome = b := ⟨_, rfl⟩
      rw [hop, hec] at HPB
      rw [hop, hbc] at HPC
      have HEC : Hid ((if bc = true then (0 : Int) else 330) = ec) := Lib.hid (by rw [← hbc]; exact hec)
      clear hop hec hbc
      go_wp2_with fail
      refine (HPB.out w3 _ HDB.out).mono ?_
      rintro e w121 ⟨v, rfl, hv, hb⟩
      replace HB := Lib.hid (HB.out.trans (hb.mono HB.out.size))
      replace HDB := Lib.hid (HDB.out.keep hb)
      clear hb
      have HVp := Lib.hid hv.read
      obtain ⟨slp, hvv, hvo⟩ := hv
      obtain ⟨xp, xpc, rfl, _, _⟩ := (ownSl hvo).shape
      unfold rtV at hvv
      subst hvv
      clear hvo HPB
      go_upto_region 13 with (first
        | (refine Agg.allocRow 26 #[.int .i64 0, .int .u64 0, .slice none 0 0, .int .i64 0] rfl rfl (by kernel_rfl) ?_; simp only [Act.put, List.setIfInBounds_toArray, List.set_cons_succ, List.set_cons_zero])
        | (refine Agg.gStoreNew 4 [.int .i64 op.slot, .int .u64 (op.stamp : Int), .slice xp op.pages.length xpc, .int .i64 op.bytes] rfl rfl rfl rfl rfl rfl (by decide +kernel) rfl rfl (by simp [Value.oneCell']) ?_; simp only [Act.put]))
      refine Agg.wp_at fun w122 hw122 => ?_
      have hb : Below w121.heap.size w121 w122 := by rw [hw122.out]; repeat (first | exact Below.refl _ _ | refine Agg.bel_drew ?_ | refine Agg.bel_alloc ?_ _)
      replace HB := Lib.hid (HB.out.trans (hb.mono HB.out.size))
      replace HDB := Lib.hid (HDB.out.keep hb)
      replace HVp := Lib.hid (HVp.out.keep hb)
      clear hb
      have H17 : Hid (Blk w122 w121.heap.size 26 [.int .i64 op.slot, .int .u64 (op.stamp : Int), .slice xp op.pages.length xpc, .int .i64 op.bytes]) := by show Blk _ _ _ _; rw [hw122.out]; exact Blk.new w121 26 #[.int .i64 op.slot, .int .u64 (op.stamp : Int), .slice xp op.pages.length xpc, .int .i64 op.bytes]
      clear hw122
      generalize w121.heap.size = g17 at *
      go_wp2_with fail
      refine (HPC.out w122 _ HDB.out).mono ?_
      rintro e w123 ⟨v, rfl, hv, hb⟩
      replace HB := Lib.hid (HB.out.trans (hb.mono HB.out.size))
      replace HDB := Lib.hid (HDB.out.keep hb)
      replace HVp := Lib.hid (HVp.out.keep hb)
      replace H17 := Lib.hid (H17.out.keep hb)
      clear hb
      have HVq := Lib.hid hv.read
      obtain ⟨slq, hvv, hvo⟩ := hv
      obtain ⟨xq, xqc, rfl, _, _⟩ := (ownSl hvo).shape
      unfold rtV at hvv
      subst hvv
      clear hvo HPC
      go_upto_region 14 with (first
        | (refine Agg.allocRow 26 #[.int .i64 0, .int .u64 0, .slice none 0 0, .int .i64 0] rfl rfl (by kernel_rfl) ?_; simp only [Act.put, List.setIfInBounds_toArray, List.set_cons_succ, List.set_cons_zero])
        | (refine Agg.gStoreNew 4 [.int .i64 op.slot, .int .u64 (op.stamp : Int), .slice xq op.pages.length xqc, .int .i64 op.bytes] rfl rfl rfl rfl rfl rfl (by decide +kernel) rfl rfl (by simp [Value.oneCell']) ?_; simp only [Act.put]))
      refine Agg.wp_at fun w124 hw124 => ?_
      have hb : Below w123.heap.size w123 w124 := by rw [hw124.out]; repeat (first | exact Below.refl _ _ | refine Agg.bel_drew ?_ | refine Agg.bel_alloc ?_ _)
      replace HB := Lib.hid (HB.out.trans (hb.mono HB.out.size))
      replace HVp := Lib.hid (HVp.out.keep hb)
      replace H17 := Lib.hid (H17.out.keep hb)
      replace HVq := Lib.hid (HVq.out.keep hb)
      clear hb
      have H19 : Hid (Blk w124 w123.heap.size 26 [.int .i64 op.slot, .int .u64 (op.stamp : Int), .slice xq op.pages.length xqc, .int .i64 op.bytes]) := by show Blk _ _ _ _; rw [hw124.out]; exact Blk.new w123 26 #[.int .i64 op.slot, .int .u64 (op.stamp : Int), .slice xq op.pages.length xqc, .int .i64 op.bytes]
      clear hw124
      generalize w123.heap.size = g19 at *
      rcases (show bc = true ∨ bc = false by cases bc <;> simp) with hq | hq
      · obtain rfl : ec = 0 := by rw [← HEC.out, if_pos hq]
        subst hq
        refine Agg.listR 16 (by kernel_rfl) ?_
        simp only [List.take_succ_cons, List.take_zero, List.drop_succ_cons, List.drop_zero]
        refine Agg.chMove rfl rfl rfl rfl ?_
        refine Agg.chMove rfl rfl rfl rfl ?_
        refine Agg.chEq true (by decide) rfl rfl rfl rfl rfl ?_
        refine Agg.chEqB true Try.underlying4 (by decide) rfl rfl rfl rfl rfl ?_
        refine Agg.chMove rfl rfl rfl rfl ?_
        refine Agg.chMove rfl rfl rfl rfl ?_
        refine Agg.chMove rfl rfl rfl rfl ?_
        refine Agg.chSkip rfl rfl ?_
        refine Agg.chSkip rfl rfl ?_
        refine Agg.chPick rfl rfl rfl rfl rfl ?_
        refine Agg.chPick rfl rfl rfl rfl rfl ?_
        refine Agg.chMove rfl rfl rfl rfl ?_
        refine Agg.chRowB 4 H17.out rfl (by decide +kernel) rfl rfl rfl rfl ?_
        refine Agg.chRowB 4 H19.out rfl (by decide +kernel) rfl rfl rfl rfl ?_
        refine Agg.chCall Try.func22 rfl (by kernel_rfl) rfl rfl rfl rfl (fun W hb => dSame_any op op _ _ W (RtR.keep HVp.out hb) (RtR.keep HVq.out hb) true (by simp)) ?_
        refine Agg.chPick rfl rfl rfl rfl rfl ?_
        refine Agg.chEnd ?_
        intro vs w125 hb hf
        simp only [List.reverse, List.reverseAux, Agg.Facts] at hf
        obtain _ := hf
        simp only [List.reverse, List.reverseAux, Agg.fill, List.set_cons_succ, List.set_cons_zero]
        have hbe := HB.out.trans (hb.mono HB.out.size)
        go_wp2_with fail
        go_ret
        exact ⟨rfl, hbe⟩
      · obtain rfl : ec = 330 := by rw [← HEC.out, if_neg (by rw [hq]; decide)]
        subst hq
        refine Agg.listR 16 (by kernel_rfl) ?_
        simp only [List.take_succ_cons, List.take_zero, List.drop_succ_cons, List.drop_zero]
        refine Agg.chMove rfl rfl rfl rfl ?_
        refine Agg.chMove rfl rfl rfl rfl ?_
        refine Agg.chEq false (by decide) rfl rfl rfl rfl rfl ?_
        refine Agg.chEqB true Try.underlying4 (by decide) rfl rfl rfl rfl rfl ?_
        refine Agg.chMove rfl rfl rfl rfl ?_
        refine Agg.chMove rfl rfl rfl rfl ?_
        refine Agg.chMove rfl rfl rfl rfl ?_
        refine Agg.chMove rfl rfl rfl rfl ?_
        refine Agg.chEq true (by decide) rfl rfl rfl rfl rfl ?_
        refine Agg.chPick rfl rfl rfl rfl rfl ?_
        refine Agg.chPick rfl rfl rfl rfl rfl ?_
        refine Agg.chMove rfl rfl rfl rfl ?_
        refine Agg.chRowB 4 H17.out rfl (by decide +kernel) rfl rfl rfl rfl ?_
        refine Agg.chRowB 4 H19.out rfl (by decide +kernel) rfl rfl rfl rfl ?_
        refine Agg.chCall Try.func22 rfl (by kernel_rfl) rfl rfl rfl rfl (fun W hb => dSame_any op op _ _ W (RtR.keep HVp.out hb) (RtR.keep HVq.out hb) true (by simp)) ?_
        refine Agg.chPick rfl rfl rfl rfl rfl ?_
        refine Agg.chEnd ?_
        intro vs w126 hb hf
        simp only [List.reverse, List.reverseAux, Agg.Facts] at hf
        obtain _ := hf
        simp only [List.reverse, List.reverseAux, Agg.fill, List.set_cons_succ, List.set_cons_zero]
        have hbe := HB.out.trans (hb.mono HB.out.size)
        go_wp2_with fail
        go_ret
        exact ⟨rfl, hbe⟩
end Go.Proofs.Ytjnnnnolikbjcaa
