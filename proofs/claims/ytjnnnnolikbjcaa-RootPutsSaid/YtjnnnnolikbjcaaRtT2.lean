/-
  THE WALK OF LAYER 23's STATEMENT RootPuts.
-/
import Derived.Test.YtjnnnnolikbjcaaRtT1
import Derived.Test.YtjnnnnolikbjcaaRtN9
import Derived.Test.YtjnnnnolikbjcaaRtS
import Derived.Test.YtjnnnnolikbjcaaRtL2
namespace Go.Proofs.Ytjnnnnolikbjcaa
open Go.ChangeShapes Go.WideShapes Go.ChangeAt Go.RowKit Agg Pg Dv
attribute [local go_sem] Oper.semAt_some

/-- what comes of a root that is put -/
theorem putRt_facts {d : Dev} {r : Rt} {e3 : Int} {D3 : Dev} (hp : putRt d r = (e3, D3)) :
    (whyD d = 10 ∧ e3 = 10 ∧ D3 = d) ∨ (whyD d = 260 ∧ e3 = 260 ∧ D3 = dev0) ∨ (whyD d = 0 ∧ (rightB r = false ∨ ofB d.pages.length r = false) ∧ e3 = 330 ∧ D3 = dev0) ∨ (whyD d = 0 ∧ rightB r = true ∧ ofB d.pages.length r = true ∧ RightR r ∧ (e3, D3) = if (goesP d (putP d r.slot (blkR r))).1 ≠ 0 then goesP d (putP d r.slot (blkR r)) else goesP (goesP d (putP d r.slot (blkR r))).2 (flushP (goesP d (putP d r.slot (blkR r))).2)) := by
  unfold putRt at hp
  rcases why_cases d with h | h | h
  · rw [if_neg (by omega), if_pos (by omega), h] at hp
    injection hp with p1 p2
    exact .inr (.inl ⟨h, p1.symm, p2.symm⟩)
  · rw [if_pos h] at hp
    injection hp with p1 p2
    exact .inl ⟨h, p1.symm, p2.symm⟩
  · rw [if_neg (by omega), if_neg (by omega)] at hp
    by_cases hq : rightB r = false ∨ ofB d.pages.length r = false
    · rw [if_pos hq] at hp
      injection hp with p1 p2
      exact .inr (.inr (.inl ⟨h, hq, p1.symm, p2.symm⟩))
    · rw [if_neg hq] at hp
      have h1 : rightB r = true := by simpa using fun h => hq (.inl h)
      exact .inr (.inr (.inr ⟨h, h1, by simpa using fun h => hq (.inr h), (right_iff r).1 h1, hp.symm⟩))
theorem putRt_good {d : Dev} {r : Rt} {e3 : Int} {D3 : Dev} (hg : DGood d) (hp : putRt d r = (e3, D3)) : DGood D3 := by
  rcases putRt_facts hp with ⟨_, _, rfl⟩ | ⟨_, _, rfl⟩ | ⟨_, _, _, rfl⟩ | ⟨_, _, _, hr, he⟩
  · exact hg
  · exact dev0_good
  · exact dev0_good
  · have hg1 := goesP_good hg (putP_good hg r.slot (blkR_bok hr))
    split at he
    · rw [show D3 = (goesP d (putP d r.slot (blkR r))).2 from congrArg Prod.snd he]; exact hg1
    · rw [show D3 = _ from congrArg Prod.snd he]; exact goesP_good hg1 (flushP_good hg1)

set_option maxHeartbeats 8000000 in
set_option maxRecDepth 100000 in
theorem RootPuts_walk (c0 : Array Value) (f0 : Nat) (c1 : Array Value) (f1 : Nat) (w : World) (g0 : Agg.Good Try.prog w f0 30 c0.toList) (g1 : Agg.Good Try.prog w f1 26 c1.toList) :
    Calls Try.prog 6 #[.agg c0, .agg c1] w fun e w' => e = .returned (.bool true) ∧ Below w.heap.size w w' := by
  obtain ⟨d0, hD0, hW, hf1, hf2⟩ := good_dev g0
  obtain ⟨r0, hR0, hG0⟩ := good_rt g1
  obtain ⟨qx, qpc, qy, qcy, hcc⟩ := hD0.shape
  have hG := ownD_good hW
  have hL := ownD_len d0
  have HOW := Lib.hid (fun W v h => lown_any d0 v W hW hf1 hf2 h)
  obtain ⟨d, hdd⟩ : ∃ d, ownD d0 = d := ⟨_, rfl⟩
  rw [hdd] at hG hL HOW
  have HOX := Lib.hid (fun W v h => rown_any r0 v W h)
  have hrw := ownR_w hG0
  obtain ⟨r, hrd⟩ : ∃ r, ownR r0 = r := ⟨_, rfl⟩
  rw [hrd] at HOX hrw
  obtain ⟨⟨e3, D3⟩, hp⟩ : ∃ x, putRt d r = x := ⟨_, rfl⟩
  have HP := Lib.hid (fun W u v h1 h2 => rtPut_any d r u v W hG (by omega) h1 h2 hrw e3 D3 hp)
  have hg3 := putRt_good hG hp
  have HCS := Lib.hid (putRt_facts hp)
  have HRG := Lib.hid (fun W v h => dRight_any r v W h hrw)
  have HOF := Lib.hid (fun W u v h1 h2 => dOf_any d u r v W h1 h2 _ rfl)
  have HBL := Lib.hid (fun (hr : RightR r) W v h => dBlock_any r v W h hr)
  obtain ⟨wv, hwv⟩ : ∃ x, whyD d = x := ⟨_, rfl⟩
  have HY := Lib.hid (fun W v h => why_any d v W hG h wv hwv)
  rw [hwv] at HCS
  obtain ⟨q1, hq1⟩ : ∃ q, rightB r = q := ⟨_, rfl⟩
  obtain ⟨q2, hq2⟩ : ∃ q, ofB d.pages.length r = q := ⟨_, rfl⟩
  rw [hq1] at HRG HCS
  rw [hq2] at HOF HCS
  have HSA := Lib.hid (fun W a b (h1 : DevR W a D3) (h2 : DevR W b D3) => same_R hg3 hg3 h1 h2 true (by simp))
  have HDG := Lib.hid hG
  have HDL := Lib.hid hL
  obtain ⟨sl1, hv1, hi1⟩ := hR0.ex
  obtain ⟨x1, xc1, rfl, _, _⟩ := ints_shape hi1
  have HV1 := Lib.hid hR0
  unfold rtV at hv1
  rw [hv1] at HV1 ⊢
  have HD0 := Lib.hid hD0
  rw [hcc] at HD0 ⊢
  clear g0 g1 hD0 hR0 hG0 hW hf1 hf2 hdd hrd hrw hp hg3 hG hL hwv hq1 hq2 hv1 hi1 hcc
  have HB := Lib.hid (Below.refl w.heap.size w)
  go_enter Try.func6, Try.ntmps6
  go_upto_region 1 with (fail)
  refine Agg.wp_at fun w1 hw1 => ?_
  have hb : Below w.heap.size w w1 := by rw [hw1.out]; repeat (first | exact Below.refl _ _ | refine Agg.bel_drew ?_ | refine Agg.bel_alloc ?_ _)
  replace HB := Lib.hid (HB.out.trans (hb.mono HB.out.size))
  replace HD0 := Lib.hid (HD0.out.keep hb)
  replace HV1 := Lib.hid (HV1.out.keep hb)
  clear hb
  have H2 : Hid (Blk w1 w.heap.size 30 [.slice qx d0.pages.length qpc, .slice qy d0.cache.length qcy, .int .i64 d0.fuse, .bool d0.off]) := by show Blk _ _ _ _; rw [hw1.out]; exact (Blk.new w 30 #[.slice qx d0.pages.length qpc, .slice qy d0.cache.length qcy, .int .i64 d0.fuse, .bool d0.off]).al _
  have H3 : Hid (Blk w1 (w.heap.size + 1) 26 [.int .i64 r0.slot, .int .u64 (r0.stamp : Int), .slice x1 r0.pages.length xc1, .int .i64 r0.bytes]) := by show Blk _ _ _ _; rw [hw1.out]; exact Blk.newAt (w.alloc _) 26 #[.int .i64 r0.slot, .int .u64 (r0.stamp : Int), .slice x1 r0.pages.length xc1, .int .i64 r0.bytes] _ (by simp)
  clear hw1
  go_wp2_with fail
  refine (wakes_any w1).mono ?_
  rintro e w2 ⟨rfl, hb⟩
  replace HB := Lib.hid (HB.out.trans (hb.mono HB.out.size))
  replace HD0 := Lib.hid (HD0.out.keep hb)
  replace HV1 := Lib.hid (HV1.out.keep hb)
  replace H2 := Lib.hid (H2.out.keep hb)
  replace H3 := Lib.hid (H3.out.keep hb)
  clear hb
  go_upto_region 3 with (fail)
  refine Agg.chainRD 6 (by kernel_rfl) (by kernel_rfl) ?_
  simp only [List.take_succ_cons, List.take_zero, List.drop_succ_cons, List.drop_zero]
  refine Agg.chRowB 4 H2.out rfl (by decide +kernel) rfl rfl rfl rfl ?_
  refine Agg.chCallG Try.func19 rfl (by kernel_rfl) (DevPV w2.heap.size d) (DevPV.stable _ _) rfl rfl rfl rfl (fun W hb => (HOW.out W _ (HD0.out.keep hb)).mono (by rintro e w2 ⟨u, rfl, hu, h2⟩; exact ⟨u, rfl, hu.base hb.size, h2⟩)) ?_
  refine Agg.chRowB 4 H3.out rfl (by decide +kernel) rfl rfl rfl rfl ?_
  refine Agg.chCallG Try.func13 rfl (by kernel_rfl) (RtOV w2.heap.size r) (RtOV.stable _ _) rfl rfl rfl rfl (fun W hb => (HOX.out W _ (RtR.keep HV1.out hb)).mono (by rintro e w2 ⟨u, rfl, hu, h2⟩; exact ⟨u, rfl, hu.base hb.size, h2⟩)) ?_
  refine Agg.chAlloc #[.slice none 0 0, .slice none 0 0, .int .i64 0, .bool false] rfl (by kernel_rfl) rfl rfl ?_
  refine Agg.chAlloc #[.int .i64 0, .int .u64 0, .slice none 0 0, .int .i64 0] rfl (by kernel_rfl) rfl rfl ?_
  refine Agg.chEnd ?_
  intro vs w3 hb hf hap
  simp only [List.reverse, List.reverseAux, Agg.Facts] at hf
  obtain ⟨hb1, hb2, ⟨b11, hv11, hs11, hk11⟩, ⟨b12, hv12, hs12, hk12⟩, _⟩ := hf
  simp only [List.reverse, List.reverseAux, Agg.fill, List.set_cons_succ, List.set_cons_zero, hv11, hv12]
  have HLE : Hid (w.heap.size ≤ b11) := Lib.hid (Nat.le_trans HB.out.size hs11)
  have h1112 : b11 ≠ b12 := by
    have := hap 4 5 _ _ (by decide) rfl rfl rfl rfl rfl rfl
    rw [hv11, hv12] at this
    intro e
    exact this (by rw [e])
  clear hap hv11 hv12
  have hb1' : DevO _ _ _ _ := hb1
  obtain ⟨px, pc, cx, cc, hua⟩ := hb1'.read.shape
  rw [hua] at hb1'
  obtain ⟨slb, hub, hob⟩ := hb2
  obtain ⟨xb, xbc, rfl, _, _⟩ := (ownSl hob).shape
  unfold rtV at hub
  simp only [hua, hub]
  refine Agg.tStore 4 (cs := [.slice px d.pages.length pc, .slice cx d.cache.length cc, .int .i64 d.fuse, .bool d.off]) hk11 rfl rfl rfl rfl rfl (by decide +kernel) rfl rfl (by simp [Value.oneCell']) (fun z1 hk11' hg7 => ?_)
  have hk12' := hk12.far' hg7 (Ne.symm h1112)
  refine Agg.tStore 4 hk12' rfl rfl rfl rfl rfl (by decide +kernel) rfl rfl (by simp [Value.oneCell']) (fun z2 hk12'' hg8 => ?_)
  have hk11'' := hk11'.far' hg8 h1112
  have hda2 := devO_far (devO_far hb1' hk11 (by decide) (by decide) hg7) hk12' (by decide) (by decide) hg8
  have hob2 := (hob.kept hg7 (own_apart hob hk11 (by decide))).kept hg8 (own_apart (hob.kept hg7 (own_apart hob hk11 (by decide))) hk12' (by decide))
  have hbk := (hb.trans (grown_below hg7 hb.size (fun k e => by cases e; exact hs11))).trans (grown_below hg8 (hb.trans (grown_below hg7 hb.size (fun k e => by cases e; exact hs11))).size (fun k e => by cases e; exact hs12))
  clear hb H3 HV1 HOX
  have hb := hbk
  replace HB := Lib.hid (HB.out.trans (hb.mono HB.out.size))
  replace HD0 := Lib.hid (HD0.out.keep hb)
  replace H2 := Lib.hid (H2.out.keep hb)
  clear hb
  have HU : Hid (DevR z2 (.agg #[.slice px d.pages.length pc, .slice cx d.cache.length cc, .int .i64 d.fuse, .bool d.off]) d) := Lib.hid hda2.read
  have HVr : Hid (RtR z2 (.agg #[.int .i64 r.slot, .int .u64 (r.stamp : Int), .slice xb r.pages.length xbc, .int .i64 r.bytes]) r) := Lib.hid ⟨_, rfl, ownSl hob2⟩
  have H5 := Lib.hid hk11''
  have H6 := Lib.hid hk12''
  clear hbk hb1 hb1' hob hda2 hob2 hk11 hk11' hk11'' hk12 hk12' hk12'' hg7 hg8 hua hub hs11 hs12
  refine Agg.wpNil ?_
  go_upto_region 4 with (fail)
  refine Agg.chainR 8 (by kernel_rfl) (by kernel_rfl) ?_
  simp only [List.take_succ_cons, List.take_zero, List.drop_succ_cons, List.drop_zero]
  refine Agg.chRowB 4 H2.out rfl (by decide +kernel) rfl rfl rfl rfl ?_
  refine Agg.chCallG Try.func19 rfl (by kernel_rfl) (DevPV z2.heap.size d) (DevPV.stable _ _) rfl rfl rfl rfl (fun W hb => (HOW.out W _ (HD0.out.keep hb)).mono (by rintro e w2 ⟨u, rfl, hu, h2⟩; exact ⟨u, rfl, hu.base hb.size, h2⟩)) ?_
  refine Agg.chRowB 4 H6.out rfl (by decide +kernel) rfl rfl rfl rfl ?_
  refine Agg.chCall_op Try.func14 rfl (by kernel_rfl) (.op (PutT z2.heap.size e3 D3)) (PutT.stable _ _ _) 1 rfl rfl rfl rfl rfl rfl rfl (fun u W hb hg => Calls.mono (HP.out W u _ (DevO.read hg) (RtR.keep HVr.out hb)) (fun e w2 h => by obtain ⟨u, rfl, h1, h2⟩ := h; exact ⟨_, rfl, ⟨u, rfl, h1.base hb.size⟩, h2⟩)) ?_
  refine Agg.chMoveO 3 (PutT.stable _ _ _) rfl rfl rfl rfl rfl rfl ?_
  refine Agg.chExtractO 4 (DevPV.stable _ _) PutT.c0 rfl rfl rfl rfl rfl rfl ?_
  refine Agg.chExtractO 4 (EqV.stable _) PutT.c1 rfl rfl rfl rfl rfl rfl ?_
  refine Agg.chAlloc #[.slice none 0 0, .slice none 0 0, .int .i64 0, .bool false] rfl (by kernel_rfl) rfl rfl ?_
  refine Agg.chEnd ?_
  intro vs w4 hb hf
  simp only [List.reverse, List.reverseAux, Agg.Facts] at hf
  obtain ⟨_, _, _, h7, hv8, ⟨g7, hv7, hs7, hk7⟩, _⟩ := hf
  simp only [List.reverse, List.reverseAux, Agg.fill, List.set_cons_succ, List.set_cons_zero, hv8, hv7]
  have h7' : DevO _ _ _ _ := h7
  obtain ⟨px7, pc7, cx7, cc7, hw7⟩ := h7'.read.shape
  rw [hw7] at h7'
  simp only [hw7]
  have hsz := HB.out.size
  have hbA := HB.out.trans (hb.mono HB.out.size)
  refine Agg.tStore 4 (cs := [.slice px7 D3.pages.length pc7, .slice cx7 D3.cache.length cc7, .int .i64 D3.fuse, .bool D3.off]) hk7 rfl rfl rfl rfl rfl (by decide +kernel) rfl rfl (by simp [Value.oneCell']) (fun w60 hb60 hg60 => ?_)
  refine Agg.tAssign rfl rfl rfl ?_
  simp only [Agg.ev, List.getD_cons_zero, List.getD_cons_succ, List.set_cons_succ, List.set_cons_zero]
  have hbk := hb.trans (grown_below hg60 hb.size (fun k e => by cases e; exact hs7))
  have HO7 := Lib.hid ((devO_far h7' hk7 (by decide) (by decide) hg60).base hsz)
  have HNE : Hid (b11 ≠ g7) := Lib.hid (by have := H5.out.lt; omega)
  clear hb hbA h7 h7' hv8 hv7 hw7 HD0 H2 HOW HP
  have hb := hbk
  replace HB := Lib.hid (HB.out.trans (hb.mono HB.out.size))
  replace HU := Lib.hid (HU.out.keep hb)
  replace HVr := Lib.hid (HVr.out.keep hb)
  replace H5 := Lib.hid (H5.out.keep hb)
  replace H6 := Lib.hid (H6.out.keep hb)
  clear hb
  have H7 := Lib.hid hb60
  clear hbk hb60 hg60 hk7 hs7 hsz
  refine Agg.wpNil ?_
  have h5 := H5.out
  go_wp2_with (refine Agg.gLoadB 4 h5 rfl rfl rfl rfl (by decide +kernel) ?_; simp only [Act.put, List.setIfInBounds_toArray, List.set_cons_succ, List.set_cons_zero])
  clear h5
  refine (HY.out w60 _ HU.out).mono ?_
  rintro e w5 ⟨rfl, hb⟩
  replace HB := Lib.hid (HB.out.trans (hb.mono HB.out.size))
  replace HO7 := Lib.hid (HO7.out.keep hb)
  replace HU := Lib.hid (HU.out.keep hb)
  replace HVr := Lib.hid (HVr.out.keep hb)
  replace H5 := Lib.hid (H5.out.keep hb)
  replace H6 := Lib.hid (H6.out.keep hb)
  replace H7 := Lib.hid (H7.out.keep hb)
  clear hb
  rcases HCS.out with ⟨rfl, rfl, rfl⟩ | ⟨rfl, rfl, rfl⟩ | ⟨rfl, hq, rfl, rfl⟩ | ⟨rfl, rfl, rfl, hr, hee⟩
  · skip
    go_upto_region 7 with (fail)
    refine Agg.listR 8 (by kernel_rfl) ?_
    simp only [List.take_succ_cons, List.take_zero, List.drop_succ_cons, List.drop_zero]
    refine Agg.chMove rfl rfl rfl rfl ?_
    refine Agg.chMove rfl rfl rfl rfl ?_
    refine Agg.chEq true (by decide) rfl rfl rfl rfl rfl ?_
    refine Agg.chMove rfl rfl rfl rfl ?_
    refine Agg.chRowB 4 H7.out rfl (by decide +kernel) rfl rfl rfl rfl ?_
    refine Agg.chRowB 4 H5.out rfl (by decide +kernel) rfl rfl rfl rfl ?_
    refine Agg.chCall Try.func31 rfl (by kernel_rfl) rfl rfl rfl rfl (fun W hb => HSA.out W _ _ (HO7.out.keep hb).read (HU.out.keep hb)) ?_
    refine Agg.chPick rfl rfl rfl rfl rfl ?_
    refine Agg.chEnd ?_
    intro vs w6 hb hf
    simp only [List.reverse, List.reverseAux, Agg.Facts] at hf
    obtain _ := hf
    simp only [List.reverse, List.reverseAux, Agg.fill, List.set_cons_succ, List.set_cons_zero]
    have hbe := HB.out.trans (hb.mono HB.out.size)
    go_wp2_with fail
    go_ret
    exact ⟨rfl, hbe⟩
  · skip
    go_upto_region 8 with (fail)
    refine Agg.listR 13 (by kernel_rfl) ?_
    simp only [List.take_succ_cons, List.take_zero, List.drop_succ_cons, List.drop_zero]
    refine Agg.chMove rfl rfl rfl rfl ?_
    refine Agg.chEq false (by decide) rfl rfl rfl rfl rfl ?_
    refine Agg.chMove rfl rfl rfl rfl ?_
    refine Agg.chSkip rfl rfl ?_
    refine Agg.chSkip rfl rfl ?_
    refine Agg.chSkip rfl rfl ?_
    refine Agg.chSkip rfl rfl ?_
    refine Agg.chSkip rfl rfl ?_
    refine Agg.chSkip rfl rfl ?_
    refine Agg.chSkip rfl rfl ?_
    refine Agg.chSkip rfl rfl ?_
    refine Agg.chSkip rfl rfl ?_
    refine Agg.chPick rfl rfl rfl rfl rfl ?_
    refine Agg.chEnd ?_
    intro vs w7 hb _
    show Exit.then _ _ Exit.normal _ _
    simp only [List.reverse, List.reverseAux, Agg.fill, List.set_cons_succ, List.set_cons_zero]
    replace HB := Lib.hid (HB.out.trans (hb.mono HB.out.size))
    replace HO7 := Lib.hid (HO7.out.keep hb)
    replace HU := Lib.hid (HU.out.keep hb)
    replace HVr := Lib.hid (HVr.out.keep hb)
    replace H5 := Lib.hid (H5.out.keep hb)
    replace H6 := Lib.hid (H6.out.keep hb)
    replace H7 := Lib.hid (H7.out.keep hb)
    clear hb
    go_upto_region 11 with (fail)
    refine Agg.listR 8 (by kernel_rfl) ?_
    simp only [List.take_succ_cons, List.take_zero, List.drop_succ_cons, List.drop_zero]
    refine Agg.chMove rfl rfl rfl rfl ?_
    refine Agg.chMove rfl rfl rfl rfl ?_
    refine Agg.chEq true (by decide) rfl rfl rfl rfl rfl ?_
    refine Agg.chMove rfl rfl rfl rfl ?_
    refine Agg.chRowB 4 H7.out rfl (by decide +kernel) rfl rfl rfl rfl ?_
    refine Agg.chBuild (v := .agg #[.slice none 0 0, .slice none 0 0, .int .i64 0, .bool false]) rfl rfl rfl rfl (fun W => by kernel_rfl) ?_
    refine Agg.chCall Try.func31 rfl (by kernel_rfl) rfl rfl rfl rfl (fun W hb => HSA.out W _ _ (HO7.out.keep hb).read (dev0_o 0 W).read) ?_
    refine Agg.chPick rfl rfl rfl rfl rfl ?_
    refine Agg.chEnd ?_
    intro vs w8 hb hf
    simp only [List.reverse, List.reverseAux, Agg.Facts] at hf
    obtain _ := hf
    simp only [List.reverse, List.reverseAux, Agg.fill, List.set_cons_succ, List.set_cons_zero]
    have hbe := HB.out.trans (hb.mono HB.out.size)
    go_wp2_with fail
    go_ret
    exact ⟨rfl, hbe⟩
  · skip
    rcases (show q1 = false ∨ (q1 = true ∧ q2 = false) by cases q1 <;> simp_all) with rfl | ⟨rfl, rfl⟩
    · skip
      go_upto_region 8 with (fail)
      refine Agg.listR 13 (by kernel_rfl) ?_
      simp only [List.take_succ_cons, List.take_zero, List.drop_succ_cons, List.drop_zero]
      refine Agg.chMove rfl rfl rfl rfl ?_
      refine Agg.chEq true (by decide) rfl rfl rfl rfl rfl ?_
      refine Agg.chMove rfl rfl rfl rfl ?_
      refine Agg.chRowB 4 H6.out rfl (by decide +kernel) rfl rfl rfl rfl ?_
      refine Agg.chCall Try.func25 rfl (by kernel_rfl) rfl rfl rfl rfl (fun W hb => HRG.out W _ (RtR.keep HVr.out hb)) ?_
      refine Agg.chNot rfl rfl rfl rfl ?_
      refine Agg.chMove rfl rfl rfl rfl ?_
      refine Agg.chSkip rfl rfl ?_
      refine Agg.chSkip rfl rfl ?_
      refine Agg.chSkip rfl rfl ?_
      refine Agg.chSkip rfl rfl ?_
      refine Agg.chPick rfl rfl rfl rfl rfl ?_
      refine Agg.chPick rfl rfl rfl rfl rfl ?_
      refine Agg.chEnd ?_
      intro vs w9 hb _
      show Exit.then _ _ Exit.normal _ _
      simp only [List.reverse, List.reverseAux, Agg.fill, List.set_cons_succ, List.set_cons_zero]
      replace HB := Lib.hid (HB.out.trans (hb.mono HB.out.size))
      replace HO7 := Lib.hid (HO7.out.keep hb)
      replace HU := Lib.hid (HU.out.keep hb)
      replace HVr := Lib.hid (HVr.out.keep hb)
      replace H5 := Lib.hid (H5.out.keep hb)
      replace H6 := Lib.hid (H6.out.keep hb)
      replace H7 := Lib.hid (H7.out.keep hb)
      clear hb
      go_upto_region 11 with (fail)
      refine Agg.listR 8 (by kernel_rfl) ?_
      simp only [List.take_succ_cons, List.take_zero, List.drop_succ_cons, List.drop_zero]
      refine Agg.chMove rfl rfl rfl rfl ?_
      refine Agg.chMove rfl rfl rfl rfl ?_
      refine Agg.chEq true (by decide) rfl rfl rfl rfl rfl ?_
      refine Agg.chMove rfl rfl rfl rfl ?_
      refine Agg.chRowB 4 H7.out rfl (by decide +kernel) rfl rfl rfl rfl ?_
      refine Agg.chBuild (v := .agg #[.slice none 0 0, .slice none 0 0, .int .i64 0, .bool false]) rfl rfl rfl rfl (fun W => by kernel_rfl) ?_
      refine Agg.chCall Try.func31 rfl (by kernel_rfl) rfl rfl rfl rfl (fun W hb => HSA.out W _ _ (HO7.out.keep hb).read (dev0_o 0 W).read) ?_
      refine Agg.chPick rfl rfl rfl rfl rfl ?_
      refine Agg.chEnd ?_
      intro vs w10 hb hf
      simp only [List.reverse, List.reverseAux, Agg.Facts] at hf
      obtain _ := hf
      simp only [List.reverse, List.reverseAux, Agg.fill, List.set_cons_succ, List.set_cons_zero]
      have hbe := HB.out.trans (hb.mono HB.out.size)
      go_wp2_with fail
      go_ret
      exact ⟨rfl, hbe⟩
    · skip
      go_upto_region 8 with (fail)
      refine Agg.listR 13 (by kernel_rfl) ?_
      simp only [List.take_succ_cons, List.take_zero, List.drop_succ_cons, List.drop_zero]
      refine Agg.chMove rfl rfl rfl rfl ?_
      refine Agg.chEq true (by decide) rfl rfl rfl rfl rfl ?_
      refine Agg.chMove rfl rfl rfl rfl ?_
      refine Agg.chRowB 4 H6.out rfl (by decide +kernel) rfl rfl rfl rfl ?_
      refine Agg.chCall Try.func25 rfl (by kernel_rfl) rfl rfl rfl rfl (fun W hb => HRG.out W _ (RtR.keep HVr.out hb)) ?_
      refine Agg.chNot rfl rfl rfl rfl ?_
      refine Agg.chMove rfl rfl rfl rfl ?_
      refine Agg.chRowB 4 H5.out rfl (by decide +kernel) rfl rfl rfl rfl ?_
      refine Agg.chRowB 4 H6.out rfl (by decide +kernel) rfl rfl rfl rfl ?_
      refine Agg.chCall Try.func32 rfl (by kernel_rfl) rfl rfl rfl rfl (fun W hb => HOF.out W _ _ (HU.out.keep hb) (RtR.keep HVr.out hb)) ?_
      refine Agg.chNot rfl rfl rfl rfl ?_
      refine Agg.chPick rfl rfl rfl rfl rfl ?_
      refine Agg.chPick rfl rfl rfl rfl rfl ?_
      refine Agg.chEnd ?_
      intro vs w11 hb _
      show Exit.then _ _ Exit.normal _ _
      simp only [List.reverse, List.reverseAux, Agg.fill, List.set_cons_succ, List.set_cons_zero]
      replace HB := Lib.hid (HB.out.trans (hb.mono HB.out.size))
      replace HO7 := Lib.hid (HO7.out.keep hb)
      replace HU := Lib.hid (HU.out.keep hb)
      replace HVr := Lib.hid (HVr.out.keep hb)
      replace H5 := Lib.hid (H5.out.keep hb)
      replace H6 := Lib.hid (H6.out.keep hb)
      replace H7 := Lib.hid (H7.out.keep hb)
      clear hb
      go_upto_region 11 with (fail)
      refine Agg.listR 8 (by kernel_rfl) ?_
      simp only [List.take_succ_cons, List.take_zero, List.drop_succ_cons, List.drop_zero]
      refine Agg.chMove rfl rfl rfl rfl ?_
      refine Agg.chMove rfl rfl rfl rfl ?_
      refine Agg.chEq true (by decide) rfl rfl rfl rfl rfl ?_
      refine Agg.chMove rfl rfl rfl rfl ?_
      refine Agg.chRowB 4 H7.out rfl (by decide +kernel) rfl rfl rfl rfl ?_
      refine Agg.chBuild (v := .agg #[.slice none 0 0, .slice none 0 0, .int .i64 0, .bool false]) rfl rfl rfl rfl (fun W => by kernel_rfl) ?_
      refine Agg.chCall Try.func31 rfl (by kernel_rfl) rfl rfl rfl rfl (fun W hb => HSA.out W _ _ (HO7.out.keep hb).read (dev0_o 0 W).read) ?_
      refine Agg.chPick rfl rfl rfl rfl rfl ?_
      refine Agg.chEnd ?_
      intro vs w12 hb hf
      simp only [List.reverse, List.reverseAux, Agg.Facts] at hf
      obtain _ := hf
      simp only [List.reverse, List.reverseAux, Agg.fill, List.set_cons_succ, List.set_cons_zero]
      have hbe := HB.out.trans (hb.mono HB.out.size)
      go_wp2_with fail
      go_ret
      exact ⟨rfl, hbe⟩
  · skip
    go_upto_region 8 with (fail)
    refine Agg.listR 13 (by kernel_rfl) ?_
    simp only [List.take_succ_cons, List.take_zero, List.drop_succ_cons, List.drop_zero]
    refine Agg.chMove rfl rfl rfl rfl ?_
    refine Agg.chEq true (by decide) rfl rfl rfl rfl rfl ?_
    refine Agg.chMove rfl rfl rfl rfl ?_
    refine Agg.chRowB 4 H6.out rfl (by decide +kernel) rfl rfl rfl rfl ?_
    refine Agg.chCall Try.func25 rfl (by kernel_rfl) rfl rfl rfl rfl (fun W hb => HRG.out W _ (RtR.keep HVr.out hb)) ?_
    refine Agg.chNot rfl rfl rfl rfl ?_
    refine Agg.chMove rfl rfl rfl rfl ?_
    refine Agg.chRowB 4 H5.out rfl (by decide +kernel) rfl rfl rfl rfl ?_
    refine Agg.chRowB 4 H6.out rfl (by decide +kernel) rfl rfl rfl rfl ?_
    refine Agg.chCall Try.func32 rfl (by kernel_rfl) rfl rfl rfl rfl (fun W hb => HOF.out W _ _ (HU.out.keep hb) (RtR.keep HVr.out hb)) ?_
    refine Agg.chNot rfl rfl rfl rfl ?_
    refine Agg.chPick rfl rfl rfl rfl rfl ?_
    refine Agg.chPick rfl rfl rfl rfl rfl ?_
    refine Agg.chEnd ?_
    intro vs w13 hb _
    show Exit.then _ _ Exit.normal _ _
    simp only [List.reverse, List.reverseAux, Agg.fill, List.set_cons_succ, List.set_cons_zero]
    replace HB := Lib.hid (HB.out.trans (hb.mono HB.out.size))
    replace HO7 := Lib.hid (HO7.out.keep hb)
    replace HU := Lib.hid (HU.out.keep hb)
    replace HVr := Lib.hid (HVr.out.keep hb)
    replace H5 := Lib.hid (H5.out.keep hb)
    replace H6 := Lib.hid (H6.out.keep hb)
    replace H7 := Lib.hid (H7.out.keep hb)
    clear hb
    obtain ⟨⟨e1, D1⟩, hx1⟩ : ∃ x, goesP d (putP d r.slot (blkR r)) = x := ⟨_, rfl⟩
    have hg1 := goesP_good HDG.out (putP_good HDG.out r.slot (blkR_bok hr))
    have hl1 := put_len d r.slot (blkR r) HDL.out
    have HPU := Lib.hid (fun W u (h : DevR W u d) => put_R (w := W) (v := u) HDG.out (by have := HDL.out; omega) h r.slot (blkR_bok hr))
    rw [hx1] at hg1 hl1 hee HPU
    dsimp only at hg1 hl1 hee HPU
    have HB1 := Lib.hid (fun W v h => HBL.out hr W v h)
    have HF3 := Lib.hid (fun W u (h : DevR W u D1) => flush_R (w := W) (v := u) hg1 (by omega) h)
    have HEE := Lib.hid hee
    clear hx1 hee hr hg1 hl1 HBL
    have hsz := HB.out.size
    go_upto_region 12 with (fail)
    refine Agg.chainR 9 (by kernel_rfl) (by kernel_rfl) ?_
    simp only [List.take_succ_cons, List.take_zero, List.drop_succ_cons, List.drop_zero]
    refine Agg.chRowB 4 H5.out rfl (by decide +kernel) rfl rfl rfl rfl ?_
    refine Agg.chFA (by first | exact fo_Dev_0 | exact fo_Rt_0) rfl rfl rfl rfl ?_
    refine Agg.chLoadB H6.out (by decide +kernel) rfl rfl (by rfl) rfl rfl ?_
    refine Agg.chRowB 4 H6.out rfl (by decide +kernel) rfl rfl rfl rfl ?_
    refine Agg.chCall Try.func34 rfl (by kernel_rfl) rfl rfl rfl rfl (fun W hb => HB1.out W _ (RtR.keep HVr.out hb)) ?_
    refine Agg.chCallG Try.func33 rfl (by kernel_rfl) (PutT w13.heap.size e1 D1) (PutT.stable _ _ _) rfl rfl rfl rfl (fun W hb => Calls.mono (HPU.out W _ (HU.out.keep hb)) (fun e w2 h => by obtain ⟨u, rfl, h1, h2⟩ := h; exact ⟨_, rfl, ⟨u, rfl, h1.base hb.size⟩, h2⟩)) ?_
    refine Agg.chMoveO 5 (PutT.stable _ _ _) rfl rfl rfl rfl rfl rfl ?_
    refine Agg.chExtractO 6 (DevPV.stable _ _) PutT.c0 rfl rfl rfl rfl rfl rfl ?_
    refine Agg.chExtractO 6 (EqV.stable _) PutT.c1 rfl rfl rfl rfl rfl rfl ?_
    refine Agg.chEnd ?_
    intro vs w14 hb hf
    simp only [List.reverse, List.reverseAux, Agg.Facts] at hf
    obtain ⟨_, _, h17, hv18, _⟩ := hf
    simp only [List.reverse, List.reverseAux, Agg.fill, List.set_cons_succ, List.set_cons_zero, hv18]
    have h17' : DevO _ _ _ _ := h17
    obtain ⟨px5, pc5, cx5, cc5, hv17⟩ := h17'.read.shape
    rw [hv17] at h17'
    simp only [hv17]
    have h5 := H5.out.keep hb
    have h7 := H7.out.keep hb
    have ho7 := HO7.out.keep hb
    have hbA := HB.out.trans (hb.mono HB.out.size)
    have hne57 : b11 ≠ g7 := HNE.out
    refine Agg.tStore 4 (cs := [.slice px5 D1.pages.length pc5, .slice cx5 D1.cache.length cc5, .int .i64 D1.fuse, .bool D1.off]) h5 rfl rfl rfl rfl rfl (by decide +kernel) rfl rfl (by simp [Value.oneCell']) (fun w80 hb80 hg80 => ?_)
    refine Agg.tAssign rfl rfl rfl ?_
    simp only [Agg.ev, List.getD_cons_zero, List.getD_cons_succ, List.set_cons_succ, List.set_cons_zero]
    refine Agg.wpNil ?_
    have HDV := Lib.hid ((devO_far h17' h5 (by decide) (by decide) hg80).base hsz)
    have HOG := Lib.hid (devO_far ho7 h5 (by decide) (by decide) hg80)
    have H58 := Lib.hid hb80
    have H78 := Lib.hid (h7.far' hg80 (Ne.symm hne57))
    have HB8 := Lib.hid (hbA.trans (grown_below hg80 hbA.size (fun j hj => by cases hj; exact HLE.out)))
    clear hb h17 h17' hv17 hv18 h5 h7 ho7 hbA hb80 hg80 HB H5 H6 H7 HO7 HU HVr HPU HB1 hsz
    have HB := HB8
    have hsz := HB.out.size
    have hee := HEE.out
    by_cases he1 : e1 = 0
    · subst he1
      rw [if_neg (by simp)] at hee
      rw [← hee] at HF3
      dsimp only at HF3
      have h58 := H58.out
      go_wp2_with (refine Agg.gLoadB 4 h58 rfl rfl rfl rfl (by decide +kernel) ?_; simp only [Act.put, List.setIfInBounds_toArray, List.set_cons_succ, List.set_cons_zero])
      clear h58
      refine (HF3.out w80 _ HDV.out.read).mono ?_
      rintro e w81 ⟨u, rfl, hu, hb⟩
      replace HB := Lib.hid (HB.out.trans (hb.mono HB.out.size))
      replace HDV := Lib.hid (HDV.out.keep hb)
      replace HOG := Lib.hid (HOG.out.keep hb)
      replace H58 := Lib.hid (H58.out.keep hb)
      replace H78 := Lib.hid (H78.out.keep hb)
      clear hb
      have HU := Lib.hid (hu.base hsz)
      obtain ⟨px6, pc6, cx6, cc6, rfl⟩ := hu.read.shape
      clear hu
      have h58 := H58.out
      have hsz5 := HB.out.size
      go_upto_region 15 with (first
        | (refine Agg.gStoreB 4 [.slice px6 D3.pages.length pc6, .slice cx6 D3.cache.length cc6, .int .i64 D3.fuse, .bool D3.off] h58 rfl rfl rfl rfl rfl (by decide +kernel) rfl rfl (by simp [Value.oneCell']) (fun w94 hb94 hg94 => ?_)))
      have HU9 := Lib.hid (devO_far HU.out h58 (by decide) (by decide) hg94)
      have HO9 := Lib.hid (devO_far HOG.out h58 (by decide) (by decide) hg94)
      have H59 := Lib.hid hb94
      have H79 := Lib.hid (H78.out.far' hg94 (Ne.symm HNE.out))
      have HB9 := Lib.hid (HB.out.trans (grown_below hg94 hsz5 (fun j hj => by cases hj; exact HLE.out)))
      clear h58 hb94 hg94 hsz5 HB HU HOG H58 H78
      have HB := HB9
      refine Agg.listR 8 (by kernel_rfl) ?_
      simp only [List.take_succ_cons, List.take_zero, List.drop_succ_cons, List.drop_zero]
      refine Agg.chMove rfl rfl rfl rfl ?_
      refine Agg.chMove rfl rfl rfl rfl ?_
      refine Agg.chEq true (by simp) rfl rfl rfl rfl rfl ?_
      refine Agg.chMove rfl rfl rfl rfl ?_
      refine Agg.chRowB 4 H79.out rfl (by decide +kernel) rfl rfl rfl rfl ?_
      refine Agg.chRowB 4 H59.out rfl (by decide +kernel) rfl rfl rfl rfl ?_
      refine Agg.chCall Try.func31 rfl (by kernel_rfl) rfl rfl rfl rfl (fun W hb => HSA.out W _ _ (HO9.out.keep hb).read (HU9.out.keep hb).read) ?_
      refine Agg.chPick rfl rfl rfl rfl rfl ?_
      refine Agg.chEnd ?_
      intro vs w96 hb hf
      simp only [List.reverse, List.reverseAux, Agg.Facts] at hf
      obtain _ := hf
      simp only [List.reverse, List.reverseAux, Agg.fill, List.set_cons_succ, List.set_cons_zero]
      have hbe := HB.out.trans (hb.mono HB.out.size)
      go_wp2_with fail
      go_ret
      exact ⟨rfl, hbe⟩
    · rw [if_pos he1] at hee
      obtain ⟨rfl, rfl⟩ := Prod.mk.inj hee
      have q2 : (e3 == 0) = false := by simp [he1]
      clear he1 hee
      go_upto_region 15 with (fail)
      refine Agg.listR 8 (by kernel_rfl) ?_
      simp only [List.take_succ_cons, List.take_zero, List.drop_succ_cons, List.drop_zero]
      refine Agg.chMove rfl rfl rfl rfl ?_
      refine Agg.chMove rfl rfl rfl rfl ?_
      refine Agg.chEq true (by simp) rfl rfl rfl rfl rfl ?_
      refine Agg.chMove rfl rfl rfl rfl ?_
      refine Agg.chRowB 4 H78.out rfl (by decide +kernel) rfl rfl rfl rfl ?_
      refine Agg.chRowB 4 H58.out rfl (by decide +kernel) rfl rfl rfl rfl ?_
      refine Agg.chCall Try.func31 rfl (by kernel_rfl) rfl rfl rfl rfl (fun W hb => HSA.out W _ _ (HOG.out.keep hb).read (HDV.out.keep hb).read) ?_
      refine Agg.chPick rfl rfl rfl rfl rfl ?_
      refine Agg.chEnd ?_
      intro vs w97 hb hf
      simp only [List.reverse, List.reverseAux, Agg.Facts] at hf
      obtain _ := hf
      simp only [List.reverse, List.reverseAux, Agg.fill, List.set_cons_succ, List.set_cons_zero]
      have hbe := HB.out.trans (hb.mono HB.out.size)
      go_wp2_with fail
      go_ret
      exact ⟨rfl, hbe⟩
end Go.Proofs.Ytjnnnnolikbjcaa
