/-
  THE WALK OF LAYER 20's STATEMENT FileBack.
-/
import Derived.Test.YtgfmpkcgkjpgnaaFj4
import Derived.Test.YtgfmpkcgkjpgnaaFiY
import Derived.Test.YtgfmpkcgkjpgnaaFk2
namespace Go.Proofs.Ytgfmpkcgkjpgnaa
open Go.ChangeShapes Go.WideShapes Go.ChangeAt Go.RowKit Agg Pg Dv Fi
attribute [local go_sem] Oper.semAt_some

theorem powB_facts {x : DiskD} (h : powB x = true) : PowD (diskD (powX x)) ∧ grB (diskD (powX x)).pages < 4611686018427386904 := by
  unfold powB at h
  rw [Bool.and_eq_true, decide_eq_true_eq] at h
  exact ⟨⟨h.1, rfl, rfl⟩, by omega⟩
set_option maxHeartbeats 8000000 in
set_option maxRecDepth 100000 in
theorem back_walk (x : DiskD) (fv hv cv : Value) (hx : DiskOk x) (fa : List Int) (fk : Int) (fb : List UInt8) (va vb : Value) (w : World) (hf : Files w fv x.files) (hh : PgsD w hv x.held) (ha : Ints w va fa) (hb : Bytes w vb fb) :
    Calls Try.prog 7 #[.agg (diskC x fv hv cv).toArray, .agg #[va, .int .i64 fk, vb]] w fun e w' => e = .returned (.bool true) ∧ Below w.heap.size w w' := by
  obtain ⟨ax, ac, rfl, _, _⟩ := ha.shape
  obtain ⟨bx, bc, rfl, _, _⟩ := hb.shape
  have HPW := Lib.hid (fun W (hW : Below w.heap.size w W) => powered_any x _ _ cv hx W (hf.keep hW) (SlR.keep hh hW))
  have HOW := Lib.hid (fun W (hW : Below w.heap.size w W) => fown_any fa fk fb _ _ W (SlR.keep ha hW) (SlR.keep hb hW))
  have hdg := diskD_good (powX_ok hx)
  have hdc : (diskD (powX x)).cache = [] := rfl
  have hpf := powB_facts (x := x)
  obtain ⟨q, hq⟩ : ∃ q, powB x = q := ⟨_, rfl⟩
  obtain ⟨D, hD⟩ : ∃ D, diskD (powX x) = D := ⟨_, rfl⟩
  obtain ⟨A2, hA2⟩ : ∃ l, fa.take 20 = l := ⟨_, rfl⟩
  obtain ⟨B2, hB2⟩ : ∃ l, fb.take 2000 = l := ⟨_, rfl⟩
  have hla : A2.length ≤ 20 := by rw [← hA2, List.length_take]; omega
  have hlb : B2.length ≤ 2000 := by rw [← hB2, List.length_take]; omega
  rw [hq, hD] at HPW
  rw [hA2, hB2] at HOW
  rw [hD] at hdg hdc
  rw [hq, hD] at hpf
  obtain ⟨G, hG⟩ : ∃ G, grB D.pages = G := ⟨_, rfl⟩
  rw [hG] at HPW hpf
  have HDG := Lib.hid hdg
  have HDC := Lib.hid hdc
  have HPF := Lib.hid hpf
  have HLA := Lib.hid hla
  have HLB := Lib.hid hlb
  have hlc : ∀ (d : Dev), d.cache = [] → d.cache.length ≤ 10000 := fun d h => by rw [h]; decide
  have hc0 := hlc D hdc
  have HNO : Hid (mayB A2 fk B2.length D.pages.length = false → q = true → fPut D A2 fk (G + 1) B2 = (2, dev0) ∧ fGet D A2 fk B2.length = ([], 2)) := Lib.hid (fun hm hq => ⟨fPut_no (hpf hq).1 hm, fGet_no (hpf hq).1 hm⟩)
  have HYES : Hid (mayB A2 fk B2.length D.pages.length = true → q = true → ∃ N F, BackF D A2 fk (G + 1) B2 N F) := Lib.hid (fun hm hq => ⟨_, _, back_facts (hpf hq).1 hdg hdc hla (by omega) (by have := (hpf hq).2; omega) hm⟩)
  have HPT := Lib.hid (fun (h : G < 4611686018427386904) W (dv av bv : Value) (hd : DevR W dv D) (ha : Ints W av A2) (hb : Bytes W bv B2) => fPut_any D A2 fk (G + 1) B2 dv av bv W hdg hc0 hd ha hb (by omega) (by omega) (by omega))
  have HGT := Lib.hid (fun (d : Dev) (hg : DGood d) (hc : d.cache.length ≤ 40) W (dv av : Value) (hd : DevR W dv d) (ha : Ints W av A2) => Get_any d A2 fk (B2.length : Int) dv av W hg (by omega) hd ha (by omega) (by omega) (by omega))
  clear hf hh ha hb hx hA2 hB2 hD hq hG hdg hdc hpf hc0 hlc hla hlb
  have HB := Lib.hid (Below.refl w.heap.size w)
  go_enter Try.func7, Try.ntmps7
  go_upto_region 1 with (fail)
  refine Agg.wp_at fun w1 hw1 => ?_
  have hb : Below w.heap.size w w1 := by rw [hw1.out]; repeat (first | exact Below.refl _ _ | refine Agg.bel_drew ?_ | refine Agg.bel_alloc ?_ _)
  replace HB := Lib.hid (HB.out.trans (hb.mono HB.out.size))
  clear hb
  have H2 : Hid (Blk w1 w.heap.size 38 (diskC x fv hv cv)) := by show Blk _ _ _ _; rw [hw1.out]; exact (Blk.new w 38 (diskC x fv hv cv).toArray).al _
  have H3 : Hid (Blk w1 (w.heap.size + 1) 41 [.slice ax fa.length ac, .int .i64 fk, .slice bx fb.length bc]) := by show Blk _ _ _ _; rw [hw1.out]; exact Blk.newAt (w.alloc _) 41 #[.slice ax fa.length ac, .int .i64 fk, .slice bx fb.length bc] _ (by simp)
  clear hw1
  have HL6 : Hid ((diskC x fv hv cv).length = 6) := Lib.hid rfl
  obtain ⟨dc, hdc⟩ : ∃ c, diskC x fv hv cv = c := ⟨_, rfl⟩
  rw [hdc] at H2 HL6 HPW
  clear hdc
  go_wp2_with fail
  refine (wakes_any w1).mono ?_
  rintro e w2 ⟨rfl, hb⟩
  replace HB := Lib.hid (HB.out.trans (hb.mono HB.out.size))
  replace H2 := Lib.hid (H2.out.keep hb)
  replace H3 := Lib.hid (H3.out.keep hb)
  clear hb
  have h2 := H2.out
  go_wp2_with (refine Agg.gLoadB 6 h2 HL6.out rfl rfl rfl (by decide +kernel) ?_; simp only [Act.put, List.setIfInBounds_toArray, List.set_cons_succ, List.set_cons_zero])
  clear h2
  refine (HPW.out w2 HB.out).mono ?_
  rintro e w3 ⟨u1, rfl, hu1, hb⟩
  replace HB := Lib.hid (HB.out.trans (hb.mono HB.out.size))
  replace H2 := Lib.hid (H2.out.keep hb)
  replace H3 := Lib.hid (H3.out.keep hb)
  clear hb
  have HD := Lib.hid hu1.read
  obtain ⟨px, pc, qx, qc, rfl⟩ := HD.out.shape
  clear hu1 HPW H2
  go_upto_region 4 with (fail)
  refine Agg.wp_at fun w4 hw4 => ?_
  have hb : Below w3.heap.size w3 w4 := by rw [hw4.out]; repeat (first | exact Below.refl _ _ | refine Agg.bel_drew ?_ | refine Agg.bel_alloc ?_ _)
  replace HB := Lib.hid (HB.out.trans (hb.mono HB.out.size))
  replace H3 := Lib.hid (H3.out.keep hb)
  replace HD := Lib.hid (HD.out.keep hb)
  clear hb
  have H5 : Hid (Blk w4 w3.heap.size 46 [.slice px D.pages.length pc, .slice qx D.cache.length qc, .int .i64 D.fuse, .bool D.off]) := by show Blk _ _ _ _; rw [hw4.out]; exact Blk.new w3 46 #[.slice px D.pages.length pc, .slice qx D.cache.length qc, .int .i64 D.fuse, .bool D.off]
  clear hw4
  generalize w3.heap.size = g5 at *
  have h3 := H3.out
  go_wp2_with (refine Agg.gLoadB 3 h3 rfl rfl rfl rfl (by decide +kernel) ?_; simp only [Act.put, List.setIfInBounds_toArray, List.set_cons_succ, List.set_cons_zero])
  clear h3
  refine (HOW.out w4 HB.out).mono ?_
  rintro e w5 ⟨u2, rfl, hu2, hb⟩
  replace HB := Lib.hid (HB.out.trans (hb.mono HB.out.size))
  replace H3 := Lib.hid (H3.out.keep hb)
  replace HD := Lib.hid (HD.out.keep hb)
  replace H5 := Lib.hid (H5.out.keep hb)
  clear hb
  obtain ⟨ua, ub, rfl, hua, hub⟩ := hu2
  have HUA := Lib.hid (ownSl hua)
  have HUB := Lib.hid (ownSl hub)
  obtain ⟨xa, ca, rfl, _, _⟩ := (ownSl hua).shape
  obtain ⟨xb, cb, rfl, _, _⟩ := (ownSl hub).shape
  clear hua hub H3 HOW
  go_upto_region 5 with (fail)
  refine Agg.wp_at fun w6 hw6 => ?_
  have hb : Below w5.heap.size w5 w6 := by rw [hw6.out]; repeat (first | exact Below.refl _ _ | refine Agg.bel_drew ?_ | refine Agg.bel_alloc ?_ _)
  replace HB := Lib.hid (HB.out.trans (hb.mono HB.out.size))
  replace HD := Lib.hid (HD.out.keep hb)
  replace H5 := Lib.hid (H5.out.keep hb)
  replace HUA := Lib.hid (HUA.out.keep hb)
  replace HUB := Lib.hid (HUB.out.keep hb)
  clear hb
  have H8 : Hid (Blk w6 w5.heap.size 41 [.slice xa A2.length ca, .int .i64 fk, .slice xb B2.length cb]) := by show Blk _ _ _ _; rw [hw6.out]; exact Blk.new w5 41 #[.slice xa A2.length ca, .int .i64 fk, .slice xb B2.length cb]
  clear hw6
  generalize w5.heap.size = g8 at *
  cases q
  · go_wp2_with fail
    go_ret
    exact ⟨rfl, HB.out⟩
  · skip
    have hg63 : G < 4611686018427386904 := (HPF.out rfl).2
    have xH8_0 := H8.out.cell 0
    have xH8_1 := H8.out.cell 1
    have xH8_2 := H8.out.cell 2
    have lH8 := H8.out.lt
    simp only [List.getElem?_cons_zero, List.getElem?_cons_succ] at xH8_0 xH8_1 xH8_2
    have h5 := H5.out
    go_wp2_with (refine Agg.gLoadB 4 h5 rfl rfl rfl rfl (by decide +kernel) ?_; simp only [Act.put, List.setIfInBounds_toArray, List.set_cons_succ, List.set_cons_zero])
    clear xH8_0 xH8_1 xH8_2 lH8
    clear h5
    refine (HPT.out hg63 w6 _ _ _ HD.out HUA.out HUB.out).mono ?_
    rintro e w7 ⟨u3, rfl, hu3, hb⟩
    replace HB := Lib.hid (HB.out.trans (hb.mono HB.out.size))
    replace HD := Lib.hid (HD.out.keep hb)
    replace H5 := Lib.hid (H5.out.keep hb)
    replace HUA := Lib.hid (HUA.out.keep hb)
    replace HUB := Lib.hid (HUB.out.keep hb)
    replace H8 := Lib.hid (H8.out.keep hb)
    clear hb
    clear HPT
    obtain ⟨m, hm⟩ : ∃ m, mayB A2 fk B2.length D.pages.length = m := ⟨_, rfl⟩
    cases m
    · obtain ⟨hno, hgo⟩ := HNO.out hm trivial
      have hgt := HGT.out D HDG.out (by rw [HDC.out]; decide)
      rw [hno] at hu3 ⊢
      rw [hgo] at hgt
      have HGN := Lib.hid hgt
      obtain ⟨py, pyc, qy, qyc, rfl⟩ := hu3.shape
      clear hu3 hno hgo hgt HNO HYES HGT HDC hm
      go_upto_region 8 with (fail)
      refine Agg.wp_at fun w8 hw8 => ?_
      have hb : Below w7.heap.size w7 w8 := by rw [hw8.out]; repeat (first | exact Below.refl _ _ | refine Agg.bel_drew ?_ | refine Agg.bel_alloc ?_ _)
      replace HB := Lib.hid (HB.out.trans (hb.mono HB.out.size))
      replace HD := Lib.hid (HD.out.keep hb)
      replace H5 := Lib.hid (H5.out.keep hb)
      replace HUA := Lib.hid (HUA.out.keep hb)
      replace HUB := Lib.hid (HUB.out.keep hb)
      replace H8 := Lib.hid (H8.out.keep hb)
      clear hb
      clear hw8
      have xH8_0 := H8.out.cell 0
      have xH8_1 := H8.out.cell 1
      have xH8_2 := H8.out.cell 2
      have lH8 := H8.out.lt
      simp only [List.getElem?_cons_zero, List.getElem?_cons_succ] at xH8_0 xH8_1 xH8_2
      have h5 := H5.out
      go_wp2_with (refine Agg.gLoadB 4 h5 rfl rfl rfl rfl (by decide +kernel) ?_; simp only [Act.put, List.setIfInBounds_toArray, List.set_cons_succ, List.set_cons_zero])
      clear xH8_0 xH8_1 xH8_2 lH8
      clear h5
      refine (HGN.out w8 _ _ HD.out HUA.out).mono ?_
      rintro e w9 ⟨u4, rfl, hu4, hb⟩
      replace HB := Lib.hid (HB.out.trans (hb.mono HB.out.size))
      replace HD := Lib.hid (HD.out.keep hb)
      replace H5 := Lib.hid (H5.out.keep hb)
      replace HUA := Lib.hid (HUA.out.keep hb)
      replace HUB := Lib.hid (HUB.out.keep hb)
      replace H8 := Lib.hid (H8.out.keep hb)
      clear hb
      clear hu4
      go_wp2_with fail
      go_ret
      exact ⟨rfl, HB.out⟩
    · skip
      obtain ⟨N, F, HBF⟩ := HYES.out hm trivial
      rw [HBF.put] at hu3 ⊢
      have HN := Lib.hid hu3
      obtain ⟨py, pyc, qy, qyc, rfl⟩ := hu3.shape
      have hgt := HGT.out N HBF.good HBF.len
      rw [HBF.got] at hgt
      have HGN := Lib.hid hgt
      have hgt2 := HGT.out F HBF.fgood HBF.flen
      rw [HBF.fgot] at hgt2
      have HGF := Lib.hid hgt2
      have HBX := Lib.hid HBF
      clear hu3 hgt hgt2 HNO HYES HGT hm HBF
      go_upto_region 8 with (fail)
      refine Agg.wp_at fun w10 hw10 => ?_
      have hb : Below w7.heap.size w7 w10 := by rw [hw10.out]; repeat (first | exact Below.refl _ _ | refine Agg.bel_drew ?_ | refine Agg.bel_alloc ?_ _)
      replace HB := Lib.hid (HB.out.trans (hb.mono HB.out.size))
      replace HD := Lib.hid (HD.out.keep hb)
      replace H5 := Lib.hid (H5.out.keep hb)
      replace HUA := Lib.hid (HUA.out.keep hb)
      replace HUB := Lib.hid (HUB.out.keep hb)
      replace H8 := Lib.hid (H8.out.keep hb)
      replace HN := Lib.hid (HN.out.keep hb)
      clear hb
      have H9 : Hid (Blk w10 w7.heap.size 46 [.slice py N.pages.length pyc, .slice qy N.cache.length qyc, .int .i64 N.fuse, .bool N.off]) := by show Blk _ _ _ _; rw [hw10.out]; exact Blk.new w7 46 #[.slice py N.pages.length pyc, .slice qy N.cache.length qyc, .int .i64 N.fuse, .bool N.off]
      clear hw10
      generalize w7.heap.size = g9 at *
      have xH8_0 := H8.out.cell 0
      have xH8_1 := H8.out.cell 1
      have xH8_2 := H8.out.cell 2
      have lH8 := H8.out.lt
      simp only [List.getElem?_cons_zero, List.getElem?_cons_succ] at xH8_0 xH8_1 xH8_2
      have h9 := H9.out
      go_wp2_with (refine Agg.gLoadB 4 h9 rfl rfl rfl rfl (by decide +kernel) ?_; simp only [Act.put, List.setIfInBounds_toArray, List.set_cons_succ, List.set_cons_zero])
      clear xH8_0 xH8_1 xH8_2 lH8
      clear h9
      refine (HGN.out w10 _ _ HN.out HUA.out).mono ?_
      rintro e w11 ⟨u4, rfl, hu4, hb⟩
      replace HB := Lib.hid (HB.out.trans (hb.mono HB.out.size))
      replace HD := Lib.hid (HD.out.keep hb)
      replace H5 := Lib.hid (H5.out.keep hb)
      replace HUA := Lib.hid (HUA.out.keep hb)
      replace HUB := Lib.hid (HUB.out.keep hb)
      replace H8 := Lib.hid (H8.out.keep hb)
      replace HN := Lib.hid (HN.out.keep hb)
      replace H9 := Lib.hid (H9.out.keep hb)
      clear hb
      obtain ⟨ux4, uc4, rfl, _, _⟩ := (ownSl hu4).shape
      have HU4 := Lib.hid (ownSl hu4)
      clear hu4 HGN
      have hlb2 := HLB.out
      have HNE : Hid (((A2.length : Int) != needN B2.length) = false) := Lib.hid (by rw [HBX.out.need]; simp)
      go_upto_region 12 with (fail)
      refine Agg.chainR 19 (by kernel_rfl) (by kernel_rfl) ?_
      simp only [List.take_succ_cons, List.take_zero, List.drop_succ_cons, List.drop_zero]
      refine Agg.chMove rfl rfl rfl rfl ?_
      refine Agg.chNe false (by simp) rfl rfl rfl rfl rfl ?_
      refine Agg.chMove rfl rfl rfl rfl ?_
      refine Agg.chMove rfl rfl rfl rfl ?_
      refine Agg.chFA fo_FFile_2 rfl rfl rfl rfl ?_
      refine Agg.chLoadB H8.out (by decide +kernel) rfl rfl (by rfl) rfl rfl ?_
      refine Agg.chCall Try.func25 rfl (by kernel_rfl) rfl rfl rfl rfl (fun W hb => eqY_any B2 B2 _ _ W (SlR.keep HU4.out hb) (SlR.keep HUB.out hb) true (by simp)) ?_
      refine Agg.chNot rfl rfl rfl rfl ?_
      refine Agg.chPick rfl rfl rfl rfl rfl ?_
      refine Agg.chMove rfl rfl rfl rfl ?_
      refine Agg.chFA fo_FFile_0 rfl rfl rfl rfl ?_
      refine Agg.chLoadB H8.out (by decide +kernel) rfl rfl (by rfl) rfl rfl ?_
      refine Agg.chLen Try.underlying22 rfl rfl rfl rfl ?_
      refine Agg.chFA fo_FFile_2 rfl rfl rfl rfl ?_
      refine Agg.chLoadB H8.out (by decide +kernel) rfl rfl (by rfl) rfl rfl ?_
      refine Agg.chLen Try.underlying39 rfl rfl rfl rfl ?_
      refine Agg.chCall Try.func16 rfl (by kernel_rfl) rfl rfl rfl rfl (fun W hb => need_any _ (by omega) (by omega) W) ?_
      refine Agg.chNe false HNE.out rfl rfl rfl rfl rfl ?_
      refine Agg.chPick rfl rfl rfl rfl rfl ?_
      refine Agg.chEnd ?_
      intro vs w12 hb _
      refine Agg.wpNil ?_
      simp only [List.reverse, List.reverseAux, Agg.fill, List.set_cons_succ, List.set_cons_zero]
      replace HB := Lib.hid (HB.out.trans (hb.mono HB.out.size))
      replace HD := Lib.hid (HD.out.keep hb)
      replace H5 := Lib.hid (H5.out.keep hb)
      replace HUA := Lib.hid (HUA.out.keep hb)
      replace HUB := Lib.hid (HUB.out.keep hb)
      replace H8 := Lib.hid (H8.out.keep hb)
      replace HN := Lib.hid (HN.out.keep hb)
      replace H9 := Lib.hid (H9.out.keep hb)
      replace HU4 := Lib.hid (HU4.out.keep hb)
      clear hb
      clear HNE HU4
      have hdn := HDG.out.np
      have xH5_0 := H5.out.cell 0
      have xH5_1 := H5.out.cell 1
      have xH5_2 := H5.out.cell 2
      have xH5_3 := H5.out.cell 3
      have lH5 := H5.out.lt
      simp only [List.getElem?_cons_zero, List.getElem?_cons_succ] at xH5_0 xH5_1 xH5_2 xH5_3
      go_wp2_with fail
      clear xH5_0 xH5_1 xH5_2 xH5_3 lH5
      obtain ⟨wZ, hwZ⟩ : ∃ x, x = w12 := ⟨_, rfl⟩
      subst hwZ
      have HBZ := HB
      have HDZ := HD
      have H5Z := H5
      have HUAZ := HUA
      have HUBZ := HUB
      have H8Z := H8
      have HNZ := HN
      have H9Z := H9
      clear HD H5 HUA HUB H8 HN H9 HB
      go_loopw [101] (fun ix wr => ∃ p : Nat, p ≤ D.pages.length ∧ ix = .int .i64 p ∧ Below wZ.heap.size wZ wr) (fun ix _ => D.pages.length - (intOf ix).toNat)
      case atStart => exact ⟨0, by omega, rfl, Below.refl _ _⟩
      case round =>
        obtain ⟨p, hp, rfl, hb⟩ := hrel
        have HB := Lib.hid (HBZ.out.trans (hb.mono HBZ.out.size))
        have HFW : Hid (From wZ wr) := Lib.hid hb
        have HD := Lib.hid (HDZ.out.keep hb)
        have H5 := Lib.hid (H5Z.out.keep hb)
        have HUA := Lib.hid (SlR.keep HUAZ.out hb)
        have HUB := Lib.hid (SlR.keep HUBZ.out hb)
        have H8 := Lib.hid (H8Z.out.keep hb)
        have HN := Lib.hid (HNZ.out.keep hb)
        have H9 := Lib.hid (H9Z.out.keep hb)
        clear hb
        obtain ⟨wA, hwA⟩ : ∃ x, x = wr := ⟨_, rfl⟩
        subst hwA
        by_cases hlt : p < D.pages.length
        · obtain ⟨r, hr⟩ : ∃ r, hasB A2 p = r := ⟨_, rfl⟩
          have xH8_0 := H8.out.cell 0
          have xH8_1 := H8.out.cell 1
          have xH8_2 := H8.out.cell 2
          have lH8 := H8.out.lt
          simp only [List.getElem?_cons_zero, List.getElem?_cons_succ] at xH8_0 xH8_1 xH8_2
          go_wp2_with fail
          clear xH8_0 xH8_1 xH8_2 lH8
          refine (contains_any A2 _ p wA HUA.out r hr).mono ?_
          rintro e w61 ⟨rfl, hb⟩
          replace HB := Lib.hid (HB.out.trans (hb.mono HB.out.size))
          replace HFW := Lib.hid (HFW.out.keep hb)
          replace HD := Lib.hid (HD.out.keep hb)
          replace H5 := Lib.hid (H5.out.keep hb)
          replace HUA := Lib.hid (HUA.out.keep hb)
          replace HUB := Lib.hid (HUB.out.keep hb)
          replace H8 := Lib.hid (H8.out.keep hb)
          replace HN := Lib.hid (HN.out.keep hb)
          replace H9 := Lib.hid (H9.out.keep hb)
          clear hb
          cases r
          · obtain ⟨b, hbok, e1, e2⟩ := HBX.out.other p hlt hr
            have HRB := Lib.hid hbok
            have hls := bok_cells hbok
            have hrd := fun W v hv => read_R (w := W) (v := v) (d := D) HDG.out (by rw [HDC.out]; decide) hv p
            have hrn := fun W v hv => read_R (w := W) (v := v) (d := N) HBX.out.good (by have := HBX.out.len; omega) hv p
            rw [e1] at hrd
            rw [e2] at hrn
            have HRD := Lib.hid hrd
            have HRN := Lib.hid hrn
            have HLS := Lib.hid hls
            clear hbok e1 e2 hrd hrn hls hr
            have h5 := H5.out
            go_wp2_with (refine Agg.gLoadB 4 h5 rfl rfl rfl rfl (by decide +kernel) ?_; simp only [Act.put, List.setIfInBounds_toArray, List.set_cons_succ, List.set_cons_zero])
            clear h5
            refine (HRD.out w61 _ HD.out).mono ?_
            rintro e w62 ⟨rfl, hb⟩
            replace HB := Lib.hid (HB.out.trans (hb.mono HB.out.size))
            replace HFW := Lib.hid (HFW.out.keep hb)
            replace HD := Lib.hid (HD.out.keep hb)
            replace H5 := Lib.hid (H5.out.keep hb)
            replace HUA := Lib.hid (HUA.out.keep hb)
            replace HUB := Lib.hid (HUB.out.keep hb)
            replace H8 := Lib.hid (H8.out.keep hb)
            replace HN := Lib.hid (HN.out.keep hb)
            replace H9 := Lib.hid (H9.out.keep hb)
            clear hb
            have hls := HLS.out
            go_upto_region 19 with (first
              | (refine Agg.allocRow 64 (blkC zeroB).toArray rfl rfl (by kernel_rfl) ?_; simp only [Act.put, List.setIfInBounds_toArray, List.set_cons_succ, List.set_cons_zero])
              | (refine Agg.gStoreNew 132 (blkC b) rfl rfl rfl rfl rfl rfl (by decide +kernel) hls zero132 (blkC_one _) ?_; simp only [Act.put]))
            refine Agg.wp_at fun w63 hw63 => ?_
            have hb : Below w62.heap.size w62 w63 := by rw [hw63.out]; repeat (first | exact Below.refl _ _ | refine Agg.bel_drew ?_ | refine Agg.bel_alloc ?_ _)
            replace HB := Lib.hid (HB.out.trans (hb.mono HB.out.size))
            replace HFW := Lib.hid (HFW.out.keep hb)
            replace HD := Lib.hid (HD.out.keep hb)
            replace H5 := Lib.hid (H5.out.keep hb)
            replace HUA := Lib.hid (HUA.out.keep hb)
            replace HUB := Lib.hid (HUB.out.keep hb)
            replace H8 := Lib.hid (H8.out.keep hb)
            replace HN := Lib.hid (HN.out.keep hb)
            replace H9 := Lib.hid (H9.out.keep hb)
            clear hb
            have H15 : Hid (Blk w63 w62.heap.size 64 (blkC b)) := by show Blk _ _ _ _; rw [hw63.out]; exact Blk.new w62 64 (blkC b).toArray
            clear hw63
            generalize w62.heap.size = g15 at *
            have h9 := H9.out
            go_wp2_with (refine Agg.gLoadB 4 h9 rfl rfl rfl rfl (by decide +kernel) ?_; simp only [Act.put, List.setIfInBounds_toArray, List.set_cons_succ, List.set_cons_zero])
            clear h9
            refine (HRN.out w63 _ HN.out).mono ?_
            rintro e w64 ⟨rfl, hb⟩
            replace HB := Lib.hid (HB.out.trans (hb.mono HB.out.size))
            replace HFW := Lib.hid (HFW.out.keep hb)
            replace H9 := Lib.hid (H9.out.keep hb)
            replace HN := Lib.hid (HN.out.keep hb)
            replace H15 := Lib.hid (H15.out.keep hb)
            clear hb
            go_upto_region 20 with (first
              | (refine Agg.allocRow 64 (blkC zeroB).toArray rfl rfl (by kernel_rfl) ?_; simp only [Act.put, List.setIfInBounds_toArray, List.set_cons_succ, List.set_cons_zero])
              | (refine Agg.gStoreNew 132 (blkC b) rfl rfl rfl rfl rfl rfl (by decide +kernel) hls zero132 (blkC_one _) ?_; simp only [Act.put]))
            refine Agg.wp_at fun w65 hw65 => ?_
            have hb : Below w64.heap.size w64 w65 := by rw [hw65.out]; repeat (first | exact Below.refl _ _ | refine Agg.bel_drew ?_ | refine Agg.bel_alloc ?_ _)
            replace HB := Lib.hid (HB.out.trans (hb.mono HB.out.size))
            replace HFW := Lib.hid (HFW.out.keep hb)
            replace H9 := Lib.hid (H9.out.keep hb)
            replace HN := Lib.hid (HN.out.keep hb)
            replace H15 := Lib.hid (H15.out.keep hb)
            clear hb
            have H16 : Hid (Blk w65 w64.heap.size 64 (blkC b)) := by show Blk _ _ _ _; rw [hw65.out]; exact Blk.new w64 64 (blkC b).toArray
            clear hw65 hls
            generalize w64.heap.size = g16 at *
            refine Agg.listR 11 (by kernel_rfl) ?_
            simp only [List.take_succ_cons, List.take_zero, List.drop_succ_cons, List.drop_zero]
            refine Agg.chMove rfl rfl rfl rfl ?_
            refine Agg.chNe false (by simp) rfl rfl rfl rfl rfl ?_
            refine Agg.chMove rfl rfl rfl rfl ?_
            refine Agg.chMove rfl rfl rfl rfl ?_
            refine Agg.chNe false (by simp) rfl rfl rfl rfl rfl ?_
            refine Agg.chPick rfl rfl rfl rfl rfl ?_
            refine Agg.chMove rfl rfl rfl rfl ?_
            refine Agg.chRowB 132 H15.out (bok_cells HRB.out) (by decide +kernel) rfl rfl rfl rfl ?_
            refine Agg.chRowB 132 H16.out (bok_cells HRB.out) (by decide +kernel) rfl rfl rfl rfl ?_
            refine Agg.chBin (v := .bool false) rfl rfl rfl rfl rfl (fun w => flatBlk.gd .neq _ _ _ _ w) (fun w => blk_neq b b HRB.out HRB.out true (by simp) w) ?_
            refine Agg.chPick rfl rfl rfl rfl rfl ?_
            refine Agg.chEnd ?_
            intro vs w66 hb _
            show Exit.then _ _ Exit.normal _ _
            simp only [List.reverse, List.reverseAux, Agg.fill, List.set_cons_succ, List.set_cons_zero]
            replace HB := Lib.hid (HB.out.trans (hb.mono HB.out.size))
            replace HFW := Lib.hid (HFW.out.keep hb)
            replace H15 := Lib.hid (H15.out.keep hb)
            replace H16 := Lib.hid (H16.out.keep hb)
            clear hb
            go_wp2_with fail
            refine ⟨?_, by simp [intOf]; omega⟩
            repeat apply Exists.intro
            exact ⟨⟨p + 1, by omega, by go_num, HFW.out⟩, rfl⟩
          · skip
            go_wp2_with fail
            refine ⟨?_, by simp [intOf]; omega⟩
            repeat apply Exists.intro
            exact ⟨⟨p + 1, by omega, by go_num, HFW.out⟩, rfl⟩
        · skip
          obtain rfl : p = D.pages.length := by omega
          clear HD H5
          have h9 := H9.out
          go_wp2_with (refine Agg.gLoadB 4 h9 rfl rfl rfl rfl (by decide +kernel) ?_; simp only [Act.put, List.setIfInBounds_toArray, List.set_cons_succ, List.set_cons_zero])
          clear h9
          have hfl := fun W v hv => flush_R (w := W) (v := v) (d := N) HBX.out.good (by have := HBX.out.len; omega) hv
          rw [HBX.out.flush] at hfl
          refine (hfl wA _ HN.out).mono ?_
          rintro e w67 ⟨u7, rfl, hu7, hb⟩
          replace HB := Lib.hid (HB.out.trans (hb.mono HB.out.size))
          replace HUA := Lib.hid (HUA.out.keep hb)
          replace HUB := Lib.hid (HUB.out.keep hb)
          replace H8 := Lib.hid (H8.out.keep hb)
          replace HN := Lib.hid (HN.out.keep hb)
          replace H9 := Lib.hid (H9.out.keep hb)
          clear hb
          clear hfl
          have HF := Lib.hid hu7.read
          obtain ⟨pz, pzc, qz, qzc, rfl⟩ := HF.out.shape
          clear hu7
          go_upto_region 24 with (fail)
          refine Agg.wp_at fun w68 hw68 => ?_
          have hb : Below w67.heap.size w67 w68 := by rw [hw68.out]; repeat (first | exact Below.refl _ _ | refine Agg.bel_drew ?_ | refine Agg.bel_alloc ?_ _)
          replace HB := Lib.hid (HB.out.trans (hb.mono HB.out.size))
          replace HUA := Lib.hid (HUA.out.keep hb)
          replace HUB := Lib.hid (HUB.out.keep hb)
          replace H8 := Lib.hid (H8.out.keep hb)
          replace HF := Lib.hid (HF.out.keep hb)
          clear hb
          have H19 : Hid (Blk w68 w67.heap.size 46 [.slice pz F.pages.length pzc, .slice qz F.cache.length qzc, .int .i64 F.fuse, .bool F.off]) := by show Blk _ _ _ _; rw [hw68.out]; exact Blk.new w67 46 #[.slice pz F.pages.length pzc, .slice qz F.cache.length qzc, .int .i64 F.fuse, .bool F.off]
          clear hw68
          generalize w67.heap.size = g19 at *
          have xH8_0 := H8.out.cell 0
          have xH8_1 := H8.out.cell 1
          have xH8_2 := H8.out.cell 2
          have lH8 := H8.out.lt
          simp only [List.getElem?_cons_zero, List.getElem?_cons_succ] at xH8_0 xH8_1 xH8_2
          have h19 := H19.out
          go_wp2_with (refine Agg.gLoadB 4 h19 rfl rfl rfl rfl (by decide +kernel) ?_; simp only [Act.put, List.setIfInBounds_toArray, List.set_cons_succ, List.set_cons_zero])
          clear xH8_0 xH8_1 xH8_2 lH8
          clear h19
          refine (HGF.out w68 _ _ HF.out HUA.out).mono ?_
          rintro e w69 ⟨u8, rfl, hu8, hb⟩
          replace HB := Lib.hid (HB.out.trans (hb.mono HB.out.size))
          replace HUA := Lib.hid (HUA.out.keep hb)
          replace HUB := Lib.hid (HUB.out.keep hb)
          replace H8 := Lib.hid (H8.out.keep hb)
          replace HF := Lib.hid (HF.out.keep hb)
          replace H19 := Lib.hid (H19.out.keep hb)
          clear hb
          have HU8 := Lib.hid (ownSl hu8)
          clear hu8
          go_upto_region 25 with (fail)
          refine Agg.listR 11 (by kernel_rfl) ?_
          simp only [List.take_succ_cons, List.take_zero, List.drop_succ_cons, List.drop_zero]
          refine Agg.chMove rfl rfl rfl rfl ?_
          refine Agg.chEq true (by simp) rfl rfl rfl rfl rfl ?_
          refine Agg.chMove rfl rfl rfl rfl ?_
          refine Agg.chMove rfl rfl rfl rfl ?_
          refine Agg.chEq true (by simp) rfl rfl rfl rfl rfl ?_
          refine Agg.chPick rfl rfl rfl rfl rfl ?_
          refine Agg.chMove rfl rfl rfl rfl ?_
          refine Agg.chMove rfl rfl rfl rfl ?_
          refine Agg.chFA fo_FFile_2 rfl rfl rfl rfl ?_
          refine Agg.chLoadB H8.out (by decide +kernel) rfl rfl (by rfl) rfl rfl ?_
          refine Agg.chCall Try.func25 rfl (by kernel_rfl) rfl rfl rfl rfl (fun W hb => eqY_any B2 B2 _ _ W (SlR.keep HU8.out hb) (SlR.keep HUB.out hb) true (by simp)) ?_
          refine Agg.chEnd ?_
          intro vs w70 hb _
          simp only [List.reverse, List.reverseAux, Agg.fill, List.set_cons_succ, List.set_cons_zero]
          replace HB := Lib.hid (HB.out.trans (hb.mono HB.out.size))
          replace HUA := Lib.hid (HUA.out.keep hb)
          replace HUB := Lib.hid (HUB.out.keep hb)
          replace H8 := Lib.hid (H8.out.keep hb)
          replace HU8 := Lib.hid (HU8.out.keep hb)
          clear hb
          go_wp2_with fail
          go_ret
          exact ⟨rfl, HB.out⟩
end Go.Proofs.Ytgfmpkcgkjpgnaa
