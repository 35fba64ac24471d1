/-
  THE WALK OF LAYER 19's STATEMENT LogReplays.
-/
import Derived.Test.YtlddjcilbpcciaaLi3
namespace Go.Proofs.Ytlddjcilbpcciaa
open Go.ChangeShapes Go.WideShapes Go.ChangeAt Go.RowKit Agg Pg Dv Lg
attribute [local go_sem] Oper.semAt_some

set_option maxHeartbeats 4000000 in
set_option maxRecDepth 100000 in
theorem reps_walk (x : Dev) (after : Nat) (dv : Value) (w : World) (hx : DevW x) (hf1 : -9223372036854775808 ≤ x.fuse) (hf2 : x.fuse ≤ 9223372036854775807) (hD : DevR w dv x) (hl : after < 18446744073709551616) :
    Calls Try.prog 5 #[dv, .int .u64 (after : Int)] w fun e w' => e = .returned (.bool true) ∧ Below w.heap.size w w' := by
  obtain ⟨px, cx, pc, cc, rfl, _, _⟩ := id hD
  have hog := ownD_good hx
  have hol := ownD_len x
  have HOW := Lib.hid (fun W v h => lown_any x v W hx hf1 hf2 h)
  obtain ⟨O, hO⟩ : ∃ O, ownD x = O := ⟨_, rfl⟩
  rw [hO] at hog hol HOW
  obtain ⟨R, hR⟩ : ∃ R, repA O after = R := ⟨_, rfl⟩
  obtain ⟨er, her⟩ : ∃ e, askL O = e := ⟨_, rfl⟩
  have HRP := Lib.hid (fun W v h => Replay_any O after v W hog (by omega) h hl)
  rw [hR, her] at HRP
  have HD := Lib.hid hD
  have HOG := Lib.hid hog
  have HOL := Lib.hid hol
  have HR := Lib.hid hR
  have HER := Lib.hid her
  have hR2 : R.2.2 < 18446744073709551616 := by rw [← hR]; exact (repA_bound hog hl).2
  have hR1 : R.2.1 ≤ 16 := by rw [← hR]; exact (repA_bound hog hl).1
  clear hD hO hog hol hR her hx hf1 hf2
  have HB := Lib.hid (Below.refl w.heap.size w)
  go_enter Try.func5, Try.ntmps5
  go_upto_region 1 with (fail)
  refine Agg.wp_at fun w1 hw1 => ?_
  have hb : Below w.heap.size w w1 := by rw [hw1.out]; repeat (first | exact Below.refl _ _ | refine Agg.bel_drew ?_ | refine Agg.bel_alloc ?_ _)
  replace HB := Lib.hid (HB.out.trans (hb.mono HB.out.size))
  replace HD := Lib.hid (HD.out.keep hb)
  clear hb
  have H2 : Hid (Blk w1 w.heap.size 28 [.slice px x.pages.length pc, .slice cx x.cache.length cc, .int .i64 x.fuse, .bool x.off]) := by show Blk _ _ _ _; rw [hw1.out]; exact Blk.new w 28 #[.slice px x.pages.length pc, .slice cx x.cache.length cc, .int .i64 x.fuse, .bool x.off]
  clear hw1
  go_wp2_with fail
  refine (wakes_any w1).mono ?_
  rintro e w2 ⟨rfl, hb⟩
  replace HB := Lib.hid (HB.out.trans (hb.mono HB.out.size))
  replace HD := Lib.hid (HD.out.keep hb)
  replace H2 := Lib.hid (H2.out.keep hb)
  clear hb
  have h2 := H2.out
  go_wp2_with (refine Agg.gLoadB 4 h2 rfl rfl rfl rfl (by decide +kernel) ?_; simp only [Act.put, List.setIfInBounds_toArray, List.set_cons_succ, List.set_cons_zero])
  clear h2
  refine (HOW.out w2 _ HD.out).mono ?_
  rintro e w3 ⟨v, rfl, hv, hb⟩
  replace HB := Lib.hid (HB.out.trans (hb.mono HB.out.size))
  replace HD := Lib.hid (HD.out.keep hb)
  replace H2 := Lib.hid (H2.out.keep hb)
  clear hb
  have HO := Lib.hid hv.read
  clear hv HOW HD H2
  obtain ⟨px2, pc2, cx2, cc2, rfl⟩ := HO.out.shape
  go_upto_region 4 with (first
    | (refine Agg.allocRow 28 #[.slice none 0 0, .slice none 0 0, .int .i64 0, .bool false] rfl rfl (by kernel_rfl) ?_; simp only [Act.put, List.setIfInBounds_toArray, List.set_cons_succ, List.set_cons_zero])
    | (refine Agg.gStoreNew 4 [.slice px2 O.pages.length pc2, .slice cx2 O.cache.length cc2, .int .i64 O.fuse, .bool O.off] rfl rfl rfl rfl rfl rfl (by decide +kernel) rfl rfl (by simp [Value.oneCell']) ?_; simp only [Act.put]))
  refine Agg.wp_at fun w4 hw4 => ?_
  have hb : Below w3.heap.size w3 w4 := by rw [hw4.out]; repeat (first | exact Below.refl _ _ | refine Agg.bel_drew ?_ | refine Agg.bel_alloc ?_ _)
  replace HB := Lib.hid (HB.out.trans (hb.mono HB.out.size))
  replace HO := Lib.hid (HO.out.keep hb)
  clear hb
  have H5 : Hid (Blk w4 w3.heap.size 28 [.slice px2 O.pages.length pc2, .slice cx2 O.cache.length cc2, .int .i64 O.fuse, .bool O.off]) := by show Blk _ _ _ _; rw [hw4.out]; exact Blk.new w3 28 #[.slice px2 O.pages.length pc2, .slice cx2 O.cache.length cc2, .int .i64 O.fuse, .bool O.off]
  clear hw4
  generalize w3.heap.size = g5 at *
  have h5 := H5.out
  go_wp2_with (refine Agg.gLoadB 4 h5 rfl rfl rfl rfl (by decide +kernel) ?_; simp only [Act.put, List.setIfInBounds_toArray, List.set_cons_succ, List.set_cons_zero])
  clear h5
  refine (HRP.out w4 _ HO.out).mono ?_
  rintro e w5 ⟨u, rfl, hu, hb⟩
  replace HB := Lib.hid (HB.out.trans (hb.mono HB.out.size))
  replace HO := Lib.hid (HO.out.keep hb)
  replace H5 := Lib.hid (H5.out.keep hb)
  clear hb
  have HG := Lib.hid hu.rows
  clear hu
  obtain ⟨lx, lc, rfl, hgl1, hgl2⟩ := rows2_shape HG.out
  unfold maxLen at hgl2
  go_upto_region 5 with (first
    | (refine Agg.allocRow 33 #[.int .i64 0, .int .u64 0] rfl rfl (by kernel_rfl) ?_; simp only [Act.put, List.setIfInBounds_toArray, List.set_cons_succ, List.set_cons_zero])
    | (refine Agg.gStoreNew 2 [.int .i64 (R.2.1 : Int), .int .u64 (R.2.2 : Int)] rfl rfl rfl rfl rfl rfl (by decide +kernel) rfl rfl (by simp [Value.oneCell']) ?_; simp only [Act.put]))
  refine Agg.wp_at fun w6 hw6 => ?_
  have hb : Below w5.heap.size w5 w6 := by rw [hw6.out]; repeat (first | exact Below.refl _ _ | refine Agg.bel_drew ?_ | refine Agg.bel_alloc ?_ _)
  replace HB := Lib.hid (HB.out.trans (hb.mono HB.out.size))
  replace HO := Lib.hid (HO.out.keep hb)
  replace H5 := Lib.hid (H5.out.keep hb)
  replace HG := Lib.hid (HG.out.keep hb)
  clear hb
  have H7 : Hid (Blk w6 w5.heap.size 33 [.int .i64 (R.2.1 : Int), .int .u64 (R.2.2 : Int)]) := by show Blk _ _ _ _; rw [hw6.out]; exact Blk.new w5 33 #[.int .i64 (R.2.1 : Int), .int .u64 (R.2.2 : Int)]
  clear hw6
  generalize w5.heap.size = g7 at *
  obtain ⟨ck, hck⟩ : ∃ c : Int, (if rightD O then (0 : Int) else 260) = c := ⟨_, rfl⟩
  have HCK := Lib.hid (fun W v (h : DevR W v O) => check_R (w := W) (v := v) (d := O) HOG.out h)
  rw [hck] at HCK
  have h5 := H5.out
  go_wp2_with (refine Agg.gLoadB 4 h5 rfl rfl rfl rfl (by decide +kernel) ?_; simp only [Act.put, List.setIfInBounds_toArray, List.set_cons_succ, List.set_cons_zero])
  clear h5
  refine (HCK.out w6 _ HO.out).mono ?_
  rintro e w7 ⟨rfl, hb⟩
  replace HB := Lib.hid (HB.out.trans (hb.mono HB.out.size))
  replace HO := Lib.hid (HO.out.keep hb)
  replace H5 := Lib.hid (H5.out.keep hb)
  replace HG := Lib.hid (HG.out.keep hb)
  replace H7 := Lib.hid (H7.out.keep hb)
  clear hb
  clear HCK
  by_cases hr : rightD O = true
  · rw [if_pos hr] at hck
    subst hck
    by_cases hoff : O.off = true
    · have ha : askL O = 10 := by unfold askL; rw [if_pos hr, if_pos hoff]
      have hRz : R = ([], 0, 0) := by have := HR.out; unfold repA at this; rw [if_neg (by rw [ha]; decide)] at this; exact this.symm
      have her : er = 10 := HER.out.symm.trans ha
      subst hRz
      subst her
      have HOF := Lib.hid hoff
      clear ha hr hoff
      have H7z : Hid (Blk w7 g7 33 [.int .i64 0, .int .u64 0]) := H7
      clear H7
      go_upto_region 6 with (fail)
      refine Agg.listR 6 (by kernel_rfl) ?_
      simp only [List.take_succ_cons, List.take_zero, List.drop_succ_cons, List.drop_zero]
      refine Agg.chMove rfl rfl rfl rfl ?_
      refine Agg.chNe false (by decide) rfl rfl rfl rfl rfl ?_
      refine Agg.chMove rfl rfl rfl rfl ?_
      refine Agg.chFA fo_fo_Dev_3 rfl rfl rfl rfl ?_
      refine Agg.chLoadB (v := .bool true) H5.out (by decide +kernel) rfl rfl (by rw [HOF.out]; rfl) rfl rfl ?_
      refine Agg.chPick rfl rfl rfl rfl rfl ?_
      refine Agg.chEnd ?_
      intro vs w8 hb _
      show Exit.then _ _ Exit.normal _ _
      simp only [List.reverse, List.reverseAux, Agg.fill, List.set_cons_succ, List.set_cons_zero]
      replace HB := Lib.hid (HB.out.trans (hb.mono HB.out.size))
      replace HO := Lib.hid (HO.out.keep hb)
      replace H5 := Lib.hid (H5.out.keep hb)
      replace HG := Lib.hid (HG.out.keep hb)
      replace H7z := Lib.hid (H7z.out.keep hb)
      clear hb
      go_upto_region 9 with (fail)
      refine Agg.listR 13 (by kernel_rfl) ?_
      simp only [List.take_succ_cons, List.take_zero, List.drop_succ_cons, List.drop_zero]
      refine Agg.chMove rfl rfl rfl rfl ?_
      refine Agg.chLen Try.underlying31 rfl rfl rfl rfl ?_
      refine Agg.chEq true (by decide) rfl rfl rfl rfl rfl ?_
      refine Agg.chMove rfl rfl rfl rfl ?_
      refine Agg.chRowB 2 H7z.out rfl (by decide +kernel) rfl rfl rfl rfl ?_
      refine Agg.chBuild (v := .agg #[.int .i64 0, .int .u64 0]) rfl rfl rfl rfl (fun W => by simp [go_sem]) ?_
      refine Agg.chBin (v := .bool true) rfl rfl rfl rfl rfl (fun w => flatLog.gd .eql _ _ _ _ w) (fun w => log_eql 0 0 0 0 (by decide) (by decide) (by decide) (by decide) true (by decide) w) ?_
      refine Agg.chPick rfl rfl rfl rfl rfl ?_
      refine Agg.chMove rfl rfl rfl rfl ?_
      refine Agg.chMove rfl rfl rfl rfl ?_
      refine Agg.chMove rfl rfl rfl rfl ?_
      refine Agg.chEq true (by decide) rfl rfl rfl rfl rfl ?_
      refine Agg.chPick rfl rfl rfl rfl rfl ?_
      refine Agg.chEnd ?_
      intro vs w9 hb _
      simp only [List.reverse, List.reverseAux, Agg.fill, List.set_cons_succ, List.set_cons_zero]
      replace HB := Lib.hid (HB.out.trans (hb.mono HB.out.size))
      replace HO := Lib.hid (HO.out.keep hb)
      replace H5 := Lib.hid (H5.out.keep hb)
      replace HG := Lib.hid (HG.out.keep hb)
      replace H7z := Lib.hid (H7z.out.keep hb)
      clear hb
      go_wp2_with fail
      go_ret
      exact ⟨rfl, HB.out⟩
    · skip
      have ha : askL O = 0 := by unfold askL; rw [if_pos hr, if_neg hoff]
      have hoffb : O.off = false := by simpa using hoff
      have her : er = 0 := HER.out.symm.trans ha
      subst her
      have hRG : repG (atL O) 0 after = R := by have := HR.out; unfold repA at this; rwa [if_pos ha] at this
      have HRR := Lib.hid (fun W v (h : DevR W v O) => rReplay_any O after v W HOG.out (by have := HOL.out; omega) hr h hl)
      rw [hRG] at HRR
      have HOF := Lib.hid hoffb
      clear ha hr hoff hoffb hRG
      go_upto_region 6 with (fail)
      refine Agg.listR 6 (by kernel_rfl) ?_
      simp only [List.take_succ_cons, List.take_zero, List.drop_succ_cons, List.drop_zero]
      refine Agg.chMove rfl rfl rfl rfl ?_
      refine Agg.chNe false (by decide) rfl rfl rfl rfl rfl ?_
      refine Agg.chMove rfl rfl rfl rfl ?_
      refine Agg.chFA fo_fo_Dev_3 rfl rfl rfl rfl ?_
      refine Agg.chLoadB (v := .bool false) H5.out (by decide +kernel) rfl rfl (by rw [HOF.out]; rfl) rfl rfl ?_
      refine Agg.chPick rfl rfl rfl rfl rfl ?_
      refine Agg.chEnd ?_
      intro vs w10 hb _
      show Exit.then _ _ Exit.normal _ _
      simp only [List.reverse, List.reverseAux, Agg.fill, List.set_cons_succ, List.set_cons_zero]
      replace HB := Lib.hid (HB.out.trans (hb.mono HB.out.size))
      replace HO := Lib.hid (HO.out.keep hb)
      replace H5 := Lib.hid (H5.out.keep hb)
      replace HG := Lib.hid (HG.out.keep hb)
      replace H7 := Lib.hid (H7.out.keep hb)
      clear hb
      have h5 := H5.out
      go_wp2_with (refine Agg.gLoadB 4 h5 rfl rfl rfl rfl (by decide +kernel) ?_; simp only [Act.put, List.setIfInBounds_toArray, List.set_cons_succ, List.set_cons_zero])
      clear h5
      refine (HRR.out w10 _ HO.out).mono ?_
      rintro e w11 ⟨u, rfl, hu, hb⟩
      replace HB := Lib.hid (HB.out.trans (hb.mono HB.out.size))
      replace HO := Lib.hid (HO.out.keep hb)
      replace H5 := Lib.hid (H5.out.keep hb)
      replace HG := Lib.hid (HG.out.keep hb)
      replace H7 := Lib.hid (H7.out.keep hb)
      clear hb
      have HV := Lib.hid hu.rows
      clear hu
      obtain ⟨vx, vc, rfl, _, _⟩ := rows2_shape HV.out
      go_upto_region 11 with (first
        | (refine Agg.allocRow 33 #[.int .i64 0, .int .u64 0] rfl rfl (by kernel_rfl) ?_; simp only [Act.put, List.setIfInBounds_toArray, List.set_cons_succ, List.set_cons_zero])
        | (refine Agg.gStoreNew 2 [.int .i64 (R.2.1 : Int), .int .u64 (R.2.2 : Int)] rfl rfl rfl rfl rfl rfl (by decide +kernel) rfl rfl (by simp [Value.oneCell']) ?_; simp only [Act.put]))
      refine Agg.wp_at fun w12 hw12 => ?_
      have hb : Below w11.heap.size w11 w12 := by rw [hw12.out]; repeat (first | exact Below.refl _ _ | refine Agg.bel_drew ?_ | refine Agg.bel_alloc ?_ _)
      replace HB := Lib.hid (HB.out.trans (hb.mono HB.out.size))
      replace HO := Lib.hid (HO.out.keep hb)
      replace H5 := Lib.hid (H5.out.keep hb)
      replace HG := Lib.hid (HG.out.keep hb)
      replace H7 := Lib.hid (H7.out.keep hb)
      replace HV := Lib.hid (HV.out.keep hb)
      clear hb
      have H11 : Hid (Blk w12 w11.heap.size 33 [.int .i64 (R.2.1 : Int), .int .u64 (R.2.2 : Int)]) := by show Blk _ _ _ _; rw [hw12.out]; exact Blk.new w11 33 #[.int .i64 (R.2.1 : Int), .int .u64 (R.2.2 : Int)]
      clear hw12
      generalize w11.heap.size = g11 at *
      refine Agg.listR 12 (by kernel_rfl) ?_
      simp only [List.take_succ_cons, List.take_zero, List.drop_succ_cons, List.drop_zero]
      refine Agg.chMove rfl rfl rfl rfl ?_
      refine Agg.chEq true (by decide) rfl rfl rfl rfl rfl ?_
      refine Agg.chMove rfl rfl rfl rfl ?_
      refine Agg.chRowB 2 H7.out rfl (by decide +kernel) rfl rfl rfl rfl ?_
      refine Agg.chRowB 2 H11.out rfl (by decide +kernel) rfl rfl rfl rfl ?_
      refine Agg.chBin (v := .bool true) rfl rfl rfl rfl rfl (fun w => flatLog.gd .eql _ _ _ _ w) (fun w => log_eql _ _ _ _ (by omega) (by omega) (by omega) (by omega) true (by simp) w) ?_
      refine Agg.chPick rfl rfl rfl rfl rfl ?_
      refine Agg.chMove rfl rfl rfl rfl ?_
      refine Agg.chMove rfl rfl rfl rfl ?_
      refine Agg.chMove rfl rfl rfl rfl ?_
      refine Agg.chCall Try.func17 rfl (by kernel_rfl) rfl rfl rfl rfl (fun W hb => eqF_any R.1 R.1 _ _ W (Agg.Rows2.keep HG.out hb) (Agg.Rows2.keep HV.out hb) true (by simp)) ?_
      refine Agg.chPick rfl rfl rfl rfl rfl ?_
      refine Agg.chEnd ?_
      intro vs w13 hb _
      simp only [List.reverse, List.reverseAux, Agg.fill, List.set_cons_succ, List.set_cons_zero]
      replace HB := Lib.hid (HB.out.trans (hb.mono HB.out.size))
      replace HO := Lib.hid (HO.out.keep hb)
      replace H5 := Lib.hid (H5.out.keep hb)
      replace HG := Lib.hid (HG.out.keep hb)
      replace H7 := Lib.hid (H7.out.keep hb)
      replace HV := Lib.hid (HV.out.keep hb)
      replace H11 := Lib.hid (H11.out.keep hb)
      clear hb
      go_wp2_with fail
      go_ret
      exact ⟨rfl, HB.out⟩
  · skip
    have hck2 : ck = 260 := by rw [if_neg hr] at hck; exact hck.symm
    subst hck2
    have ha : askL O = 260 := by unfold askL; rw [if_neg hr]
    have hRz : R = ([], 0, 0) := by have := HR.out; unfold repA at this; rw [if_neg (by rw [ha]; decide)] at this; exact this.symm
    have her : er = 260 := HER.out.symm.trans ha
    subst hRz
    subst her
    clear ha hr hck
    have H7z : Hid (Blk w7 g7 33 [.int .i64 0, .int .u64 0]) := H7
    clear H7
    go_upto_region 6 with (fail)
    refine Agg.listR 6 (by kernel_rfl) ?_
    simp only [List.take_succ_cons, List.take_zero, List.drop_succ_cons, List.drop_zero]
    refine Agg.chMove rfl rfl rfl rfl ?_
    refine Agg.chNe true (by decide) rfl rfl rfl rfl rfl ?_
    refine Agg.chMove rfl rfl rfl rfl ?_
    refine Agg.chSkip rfl rfl ?_
    refine Agg.chSkip rfl rfl ?_
    refine Agg.chPick rfl rfl rfl rfl rfl ?_
    refine Agg.chEnd ?_
    intro vs w14 hb _
    show Exit.then _ _ Exit.normal _ _
    simp only [List.reverse, List.reverseAux, Agg.fill, List.set_cons_succ, List.set_cons_zero]
    replace HB := Lib.hid (HB.out.trans (hb.mono HB.out.size))
    replace HO := Lib.hid (HO.out.keep hb)
    replace H5 := Lib.hid (H5.out.keep hb)
    replace HG := Lib.hid (HG.out.keep hb)
    replace H7z := Lib.hid (H7z.out.keep hb)
    clear hb
    go_upto_region 9 with (fail)
    refine Agg.listR 13 (by kernel_rfl) ?_
    simp only [List.take_succ_cons, List.take_zero, List.drop_succ_cons, List.drop_zero]
    refine Agg.chMove rfl rfl rfl rfl ?_
    refine Agg.chLen Try.underlying31 rfl rfl rfl rfl ?_
    refine Agg.chEq true (by decide) rfl rfl rfl rfl rfl ?_
    refine Agg.chMove rfl rfl rfl rfl ?_
    refine Agg.chRowB 2 H7z.out rfl (by decide +kernel) rfl rfl rfl rfl ?_
    refine Agg.chBuild (v := .agg #[.int .i64 0, .int .u64 0]) rfl rfl rfl rfl (fun W => by simp [go_sem]) ?_
    refine Agg.chBin (v := .bool true) rfl rfl rfl rfl rfl (fun w => flatLog.gd .eql _ _ _ _ w) (fun w => log_eql 0 0 0 0 (by decide) (by decide) (by decide) (by decide) true (by decide) w) ?_
    refine Agg.chPick rfl rfl rfl rfl rfl ?_
    refine Agg.chMove rfl rfl rfl rfl ?_
    refine Agg.chMove rfl rfl rfl rfl ?_
    refine Agg.chMove rfl rfl rfl rfl ?_
    refine Agg.chEq true (by decide) rfl rfl rfl rfl rfl ?_
    refine Agg.chPick rfl rfl rfl rfl rfl ?_
    refine Agg.chEnd ?_
    intro vs w15 hb _
    simp only [List.reverse, List.reverseAux, Agg.fill, List.set_cons_succ, List.set_cons_zero]
    replace HB := Lib.hid (HB.out.trans (hb.mono HB.out.size))
    replace HO := Lib.hid (HO.out.keep hb)
    replace H5 := Lib.hid (H5.out.keep hb)
    replace HG := Lib.hid (HG.out.keep hb)
    replace H7z := Lib.hid (H7z.out.keep hb)
    clear hb
    go_wp2_with fail
    go_ret
    exact ⟨rfl, HB.out⟩
theorem LogReplays_walk (c0 : Array Value) (f0 : Nat) (a : Int) (w : World) (g0 : Agg.Good Try.prog w f0 28 c0.toList) (h1 : (Lit.int .u64 a).wf = true) :
    Calls Try.prog 5 #[.agg c0, .int .u64 a] w fun e w' => e = .returned (.bool true) ∧ Below w.heap.size w w' := by
  obtain ⟨d, hD, hW, hf1, hf2⟩ := good_dev g0
  obtain ⟨n, rfl, hn⟩ := u64_nat h1
  exact reps_walk d n _ w hW hf1 hf2 hD hn
end Go.Proofs.Ytlddjcilbpcciaa
