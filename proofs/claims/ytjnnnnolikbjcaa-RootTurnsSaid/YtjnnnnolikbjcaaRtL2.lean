/-
  THE WALK OF LAYER 23's STATEMENT RootBack.
-/
import Derived.Test.YtjnnnnolikbjcaaRtM
namespace Go.Proofs.Ytjnnnnolikbjcaa
open Go.ChangeShapes Go.WideShapes Go.ChangeAt Go.RowKit Agg Pg Dv
attribute [local go_sem] Oper.semAt_some

theorem rbytes_take {w : World} {x : Option Addr} {c : Nat} {l : List UInt8} (h : SlR w (.slice x l.length c) 1 l.length (bv l)) (k : Nat) (hk : k ≤ l.length) : SlR w (.slice x k c) 1 k (bv (l.take k)) := by
  have h2 := slR_head h k hk
  have e : (bv l).take (k * 1) = bv (l.take k) := by rw [Nat.mul_one]; unfold bv; rw [List.map_take]
  rw [e] at h2
  exact h2
set_option maxHeartbeats 8000000 in
set_option maxRecDepth 100000 in
theorem RootBack_walk (c0 : Array Value) (f0 : Nat) (n1 n2 : Int) (v3 : Value) (l3 : List UInt8) (w : World) (g0 : Agg.Good Try.prog w f0 26 c0.toList) (w1 : (Lit.int .i64 n1).wf = true) (w2 : (Lit.int .u64 n2).wf = true) (y3 : Bytes w v3 l3) (_m3 : l3.length ≤ maxLen) :
    Calls Try.prog 7 #[.agg c0, .int .i64 n1, .int .u64 n2, v3] w fun e w' => e = .returned (.bool true) ∧ Below w.heap.size w w' := by
  obtain ⟨r0, hR0, hG0⟩ := good_rt g0
  obtain ⟨hs1, hs2⟩ := i64_range w1
  obtain ⟨st, rfl, hst⟩ := u64_nat w2
  obtain ⟨y, yc, rfl, hy1, hy2⟩ := SlR.shape y3
  unfold maxLen at hy2
  have HOW := Lib.hid (fun W v h => rown_any r0 v W h)
  have hrw := ownR_w hG0
  obtain ⟨r, hrd⟩ : ∃ r, ownR r0 = r := ⟨_, rfl⟩
  rw [hrd] at HOW hrw
  have HDT := Lib.hid (fun W v h => rtData_any r v W h hrw)
  obtain ⟨q, hq⟩ : ∃ q, rightB r = q := ⟨_, rfl⟩
  rw [hq] at HDT
  obtain ⟨LB, hLB⟩ : ∃ l : List UInt8, (if q = true then dataR r else []) = l := ⟨_, rfl⟩
  obtain ⟨eq, heq⟩ : ∃ e : Int, (if q = true then (0 : Int) else 330) = e := ⟨_, rfl⟩
  rw [hLB, heq] at HDT
  have HLB := Lib.hid hLB
  obtain ⟨nl, hnl⟩ : ∃ k, LB.length = k := ⟨_, rfl⟩
  have HNL := Lib.hid hnl
  have HEQ := Lib.hid heq
  clear hLB heq hnl
  have HQ : Hid (q = true → parseR r.slot r.stamp (dataR r) = some r ∧ (dataR r).length ≤ 120) := Lib.hid (fun h => by
    have hr := (right_iff r).1 (hq.trans h)
    exact ⟨parse_data hr, data_120 hr⟩)
  have HPA := Lib.hid (fun W u h o ho hl => parse_any r.slot r.stamp (dataR r) u W h hl hrw.s1 hrw.s2 hrw.st o ho)
  have HRR := Lib.hid (fun W a b h1 h2 => sameR_any r r a b W h1 h2 true (by simp))
  obtain ⟨sl0, hv0, hi0⟩ := hR0.ex
  obtain ⟨x0, xc0, rfl, _, _⟩ := ints_shape hi0
  have HV0 := Lib.hid hR0
  unfold rtV at hv0
  rw [hv0] at HV0 ⊢
  obtain ⟨n, hn⟩ : ∃ k, min l3.length 200 = k := ⟨_, rfl⟩
  have hmim : min (l3.length : Int) 200 = (n : Int) := by omega
  have hn1 : n ≤ l3.length := by omega
  have hn7 : n ≤ 200 := by omega
  obtain ⟨D, hD⟩ : ∃ D, l3.take n = D := ⟨_, rfl⟩
  have hDl : D.length = n := by rw [← hD, List.length_take]; omega
  obtain ⟨o, ho⟩ : ∃ o, parseR n1 st D = o := ⟨_, rfl⟩
  have HPB := Lib.hid (fun W u h => parse_any n1 st D u W h (by omega) hs1 hs2 hst o ho)
  have HSM : Hid (∀ p, o = some p → dataR p = D ∧ RightR p ∧ p.slot = n1 ∧ p.stamp = st) := Lib.hid (fun p h => parse_some (ho.trans h))
  have HY : Hid (SlR w (.slice y l3.length yc) 1 l3.length (bv l3)) := Lib.hid y3
  have HD := Lib.hid hD
  have HDL := Lib.hid hDl
  clear g0 hR0 hG0 hrd hrw hq hv0 hi0 hn hD hDl ho y3 w1 w2
  have HB := Lib.hid (Below.refl w.heap.size w)
  go_enter Try.func7, Try.ntmps7
  go_upto_region 1 with (fail)
  refine Agg.wp_at fun w1 hw1 => ?_
  have hb : Below w.heap.size w w1 := by rw [hw1.out]; repeat (first | exact Below.refl _ _ | refine Agg.bel_drew ?_ | refine Agg.bel_alloc ?_ _)
  replace HB := Lib.hid (HB.out.trans (hb.mono HB.out.size))
  replace HV0 := Lib.hid (HV0.out.keep hb)
  replace HY := Lib.hid (HY.out.keep hb)
  clear hb
  have H4 : Hid (Blk w1 w.heap.size 26 [.int .i64 r0.slot, .int .u64 (r0.stamp : Int), .slice x0 r0.pages.length xc0, .int .i64 r0.bytes]) := by show Blk _ _ _ _; rw [hw1.out]; exact Blk.new w 26 #[.int .i64 r0.slot, .int .u64 (r0.stamp : Int), .slice x0 r0.pages.length xc0, .int .i64 r0.bytes]
  clear hw1
  go_wp2_with fail
  refine (wakes_any w1).mono ?_
  rintro e w2 ⟨rfl, hb⟩
  replace HB := Lib.hid (HB.out.trans (hb.mono HB.out.size))
  replace HV0 := Lib.hid (HV0.out.keep hb)
  replace HY := Lib.hid (HY.out.keep hb)
  replace H4 := Lib.hid (H4.out.keep hb)
  clear hb
  have h4 := H4.out
  go_wp2_with (refine Agg.gLoadB 4 h4 rfl rfl rfl rfl (by decide +kernel) ?_; simp only [Act.put, List.setIfInBounds_toArray, List.set_cons_succ, List.set_cons_zero])
  clear h4
  refine (HOW.out w2 _ HV0.out).mono ?_
  rintro e w3 ⟨u, rfl, hu, hb⟩
  replace HB := Lib.hid (HB.out.trans (hb.mono HB.out.size))
  replace HV0 := Lib.hid (HV0.out.keep hb)
  replace HY := Lib.hid (HY.out.keep hb)
  replace H4 := Lib.hid (H4.out.keep hb)
  clear hb
  have HVr := Lib.hid hu.read
  obtain ⟨slr, huu, huo⟩ := hu
  obtain ⟨x9, x9c, rfl, _, _⟩ := (ownSl huo).shape
  unfold rtV at huu
  subst huu
  clear huo HOW
  go_upto_region 4 with (first
    | (refine Agg.allocRow 26 #[.int .i64 0, .int .u64 0, .slice none 0 0, .int .i64 0] rfl rfl (by kernel_rfl) ?_; simp only [Act.put, List.setIfInBounds_toArray, List.set_cons_succ, List.set_cons_zero])
    | (refine Agg.gStoreNew 4 [.int .i64 r.slot, .int .u64 (r.stamp : Int), .slice x9 r.pages.length x9c, .int .i64 r.bytes] rfl rfl rfl rfl rfl rfl (by decide +kernel) rfl rfl (by simp [Value.oneCell']) ?_; simp only [Act.put]))
  refine Agg.wp_at fun w4 hw4 => ?_
  have hb : Below w3.heap.size w3 w4 := by rw [hw4.out]; repeat (first | exact Below.refl _ _ | refine Agg.bel_drew ?_ | refine Agg.bel_alloc ?_ _)
  replace HB := Lib.hid (HB.out.trans (hb.mono HB.out.size))
  replace HY := Lib.hid (HY.out.keep hb)
  replace HVr := Lib.hid (HVr.out.keep hb)
  clear hb
  have H9 : Hid (Blk w4 w3.heap.size 26 [.int .i64 r.slot, .int .u64 (r.stamp : Int), .slice x9 r.pages.length x9c, .int .i64 r.bytes]) := by show Blk _ _ _ _; rw [hw4.out]; exact Blk.new w3 26 #[.int .i64 r.slot, .int .u64 (r.stamp : Int), .slice x9 r.pages.length x9c, .int .i64 r.bytes]
  clear hw4
  generalize w3.heap.size = g9 at *
  have h9 := H9.out
  go_wp2_with (refine Agg.gLoadB 4 h9 rfl rfl rfl rfl (by decide +kernel) ?_; simp only [Act.put, List.setIfInBounds_toArray, List.set_cons_succ, List.set_cons_zero])
  clear h9
  refine (HDT.out w4 _ HVr.out).mono ?_
  rintro e w5 ⟨u, rfl, hu, hb⟩
  replace HB := Lib.hid (HB.out.trans (hb.mono HB.out.size))
  replace HY := Lib.hid (HY.out.keep hb)
  replace HVr := Lib.hid (HVr.out.keep hb)
  replace H9 := Lib.hid (H9.out.keep hb)
  clear hb
  have HUB := Lib.hid hu
  obtain ⟨ux, uc, rfl, _, _⟩ := SlR.shape hu
  clear hu HDT
  rw [HNL.out] at HUB ⊢
  go_upto_if 28 with (fail)
  obtain ⟨wZ, hwZ⟩ : ∃ x, x = w5 := ⟨_, rfl⟩
  subst hwZ
  have HBZ := HB
  have HYZ := HY
  have HVrZ := HVr
  have H9Z := H9
  have HUBZ := HUB
  clear HB HY HVr H9 HUB
  go_cut [] from 28 to 50 (fun wx => Below wZ.heap.size wZ wx)
  case first =>
    have HB := Lib.hid (Below.refl wZ.heap.size wZ)
    have HVr := HVrZ
    have H9 := H9Z
    have HUB := HUBZ
    by_cases hq : q = true
    · obtain rfl : eq = 0 := by rw [← HEQ.out, if_pos hq]
      obtain rfl : dataR r = LB := by rw [← HLB.out, if_pos hq]
      obtain ⟨hp1, hp2⟩ := HQ.out hq
      have HP2 := Lib.hid (fun W u h => HPA.out W u h (some r) hp1 (by omega))
      have hnl2 : nl ≤ 120 := by have := HNL.out; omega
      have c90 := H9.out.cell 0
      have c91 := H9.out.cell 1
      simp only [List.getElem?_cons_zero, List.getElem?_cons_succ] at c90 c91
      clear hq hp1 hp2
      go_wp2_with fail
      clear c90 c91
      refine (HP2.out wZ _ HUB.out).mono ?_
      rintro e w41 ⟨v, rfl, hv, hb⟩
      replace HB := Lib.hid (HB.out.trans (hb.mono HB.out.size))
      replace HVr := Lib.hid (HVr.out.keep hb)
      replace H9 := Lib.hid (H9.out.keep hb)
      replace HUB := Lib.hid (HUB.out.keep hb)
      clear hb
      have HVb := Lib.hid hv.read
      obtain ⟨slb, hvv, hvo⟩ := hv
      obtain ⟨xb, xbc, rfl, _, _⟩ := (ownSl hvo).shape
      have hv2 : v = .agg #[.int .i64 r.slot, .int .u64 (r.stamp : Int), .slice xb r.pages.length xbc, .int .i64 r.bytes] := hvv
      subst hv2
      clear hvo hvv HP2
      go_upto_region 7 with (first
        | (refine Agg.allocRow 26 #[.int .i64 0, .int .u64 0, .slice none 0 0, .int .i64 0] rfl rfl (by kernel_rfl) ?_; simp only [Act.put, List.setIfInBounds_toArray, List.set_cons_succ, List.set_cons_zero])
        | (refine Agg.gStoreNew 4 [.int .i64 r.slot, .int .u64 (r.stamp : Int), .slice xb r.pages.length xbc, .int .i64 r.bytes] rfl rfl rfl rfl rfl rfl (by decide +kernel) rfl rfl (by simp [Value.oneCell']) ?_; simp only [Act.put]))
      refine Agg.wp_at fun w42 hw42 => ?_
      have hb : Below w41.heap.size w41 w42 := by rw [hw42.out]; repeat (first | exact Below.refl _ _ | refine Agg.bel_drew ?_ | refine Agg.bel_alloc ?_ _)
      replace HB := Lib.hid (HB.out.trans (hb.mono HB.out.size))
      replace HVr := Lib.hid (HVr.out.keep hb)
      replace H9 := Lib.hid (H9.out.keep hb)
      replace HVb := Lib.hid (HVb.out.keep hb)
      clear hb
      have H12 : Hid (Blk w42 w41.heap.size 26 [.int .i64 r.slot, .int .u64 (r.stamp : Int), .slice xb r.pages.length xbc, .int .i64 r.bytes]) := by show Blk _ _ _ _; rw [hw42.out]; exact Blk.new w41 26 #[.int .i64 r.slot, .int .u64 (r.stamp : Int), .slice xb r.pages.length xbc, .int .i64 r.bytes]
      clear hw42
      generalize w41.heap.size = g12 at *
      have d11 : decide ((nl : Int) > 120) = false := by simp; omega
      refine Agg.listR 13 (by kernel_rfl) ?_
      simp only [List.take_succ_cons, List.take_zero, List.drop_succ_cons, List.drop_zero]
      refine Agg.chMove rfl rfl rfl rfl ?_
      refine Agg.chNe false (by decide) rfl rfl rfl rfl rfl ?_
      refine Agg.chMove rfl rfl rfl rfl ?_
      refine Agg.chRowB 4 H12.out rfl (by decide +kernel) rfl rfl rfl rfl ?_
      refine Agg.chRowB 4 H9.out rfl (by decide +kernel) rfl rfl rfl rfl ?_
      refine Agg.chCall Try.func18 rfl (by kernel_rfl) rfl rfl rfl rfl (fun W hb => HRR.out W _ _ (RtR.keep HVb.out hb) (RtR.keep HVr.out hb)) ?_
      refine Agg.chNot rfl rfl rfl rfl ?_
      refine Agg.chPick rfl rfl rfl rfl rfl ?_
      refine Agg.chMove rfl rfl rfl rfl ?_
      refine Agg.chMove rfl rfl rfl rfl ?_
      refine Agg.chLen Try.underlying57 rfl rfl rfl rfl ?_
      refine Agg.chGt false d11 rfl rfl rfl rfl rfl ?_
      refine Agg.chPick rfl rfl rfl rfl rfl ?_
      refine Agg.chEnd ?_
      intro vs w43 hb _
      show Exit.then _ _ Exit.normal _ _
      simp only [List.reverse, List.reverseAux, Agg.fill, List.set_cons_succ, List.set_cons_zero]
      replace HB := Lib.hid (HB.out.trans (hb.mono HB.out.size))
      replace HVr := Lib.hid (HVr.out.keep hb)
      replace H9 := Lib.hid (H9.out.keep hb)
      replace HVb := Lib.hid (HVb.out.keep hb)
      replace H12 := Lib.hid (H12.out.keep hb)
      clear hb
      go_wp2_with fail
      go_meet
      exact HB.out
    · obtain rfl : eq = 330 := by rw [← HEQ.out, if_neg hq]
      clear hq
      go_wp2_with fail
      go_meet
      exact HB.out
  case rest =>
    have hbc := hcut
    have HB := Lib.hid (HBZ.out.trans (hbc.mono HBZ.out.size))
    have HY := Lib.hid (SlR.keep HYZ.out hbc)
    clear hcut hbc HBZ HYZ HVrZ H9Z HUBZ HPA HRR HQ
    have hbA : Below wc.heap.size wc (wc.alloc (.cells #[] 5)) := (Below.refl _ _).alloc (Nat.le_refl _) _
    have HLI := Lib.hid (World.ownsRow_lit (e := 5) (size := 1) (base := wc.heap.size) wc #[] 0 (Nat.le_refl _) (by decide) rfl)
    have HDA : Hid (SlR (wc.alloc (.cells #[] 5)) (.slice y n yc) 1 n (bv D)) := Lib.hid (by
      have h := rbytes_take HY.out n hn1
      rw [HD.out] at h
      exact SlR.keep h hbA)
    have hsu := Lib.hid (fun W : World => run_slice_upto ti25 y l3.length yc n (by omega) W)
    have hbw := Lib.hid (HB.out.trans (hbA.mono HB.out.size))
    have hli := HLI.out
    have hda := HDA.out
    have hone := bv_one' D
    have hsz : wc.heap.size ≤ (wc.alloc (.cells #[] 5)).heap.size := hbA.size
    clear hbA
    go_upto_region 10 with (first
      | (refine Agg.min2 _ _ _ (n : Int) rfl rfl rfl rfl hmim ?_; simp only [Act.put, List.setIfInBounds_toArray, List.set_cons_succ, List.set_cons_zero])
      | (refine Agg.gSliceUp (.slice y n yc) rfl rfl rfl rfl hsu.out ?_; simp only [Act.put, List.setIfInBounds_toArray, List.set_cons_succ, List.set_cons_zero])
      | (refine Agg.append2 ti25 _ _ rfl rfl wc.heap.size (v := .slice (some ⟨wc.heap.size, 0, none⟩) 0 0) rfl hli rfl hda hone (by unfold maxLen; omega) (by omega) hsz ?_; intro v3 w3 ho3 hg3 _; obtain ⟨x3, c3, rfl, _, _⟩ := (ownSl ho3).shape; simp only [Act.put, List.setIfInBounds_toArray, List.set_cons_succ, List.set_cons_zero]))
    have hob := own_block hli
    have HB3 := Lib.hid (hbw.out.trans (grown_below hg3 hbw.out.size (fun k e => Nat.le_trans HB.out.size (hob k e))))
    have HDB : Hid (Bytes w3 (.slice x3 (0 + n) c3) D) := Lib.hid (by
      have h := ownSl ho3
      show SlR _ _ 1 D.length (bv D)
      rw [HDL.out]
      rw [Nat.zero_add] at h ⊢
      exact h)
    rw [Nat.zero_add] at HDB ⊢
    clear hg3 ho3 hob hli hda hone hsz hbw hsu HLI HDA HB HY
    have HB := HB3
    obtain ⟨op, hop⟩ : ∃ x, o.getD rt0 = x := ⟨_, rfl⟩
    obtain ⟨ec, hec⟩ : ∃ e : Int, (if o.isSome = true then (0 : Int) else 330) = e := ⟨_, rfl⟩
    rw [hop, hec] at HPB
    have HOP := Lib.hid hop
    have HEC := Lib.hid hec
    clear hop hec
    go_wp2_with fail
    refine (HPB.out w3 _ HDB.out).mono ?_
    rintro e w91 ⟨v, rfl, hv, hb⟩
    replace HB := Lib.hid (HB.out.trans (hb.mono HB.out.size))
    replace HDB := Lib.hid (HDB.out.keep hb)
    clear hb
    have HVp := Lib.hid hv.read
    obtain ⟨slp, hvv, hvo⟩ := hv
    obtain ⟨xp, xpc, rfl, _, _⟩ := (ownSl hvo).shape
    unfold rtV at hvv
    subst hvv
    clear hvo HPB
    go_upto_region 11 with (first
      | (refine Agg.allocRow 26 #[.int .i64 0, .int .u64 0, .slice none 0 0, .int .i64 0] rfl rfl (by kernel_rfl) ?_; simp only [Act.put, List.setIfInBounds_toArray, List.set_cons_succ, List.set_cons_zero])
      | (refine Agg.gStoreNew 4 [.int .i64 op.slot, .int .u64 (op.stamp : Int), .slice xp op.pages.length xpc, .int .i64 op.bytes] rfl rfl rfl rfl rfl rfl (by decide +kernel) rfl rfl (by simp [Value.oneCell']) ?_; simp only [Act.put]))
    refine Agg.wp_at fun w92 hw92 => ?_
    have hb : Below w91.heap.size w91 w92 := by rw [hw92.out]; repeat (first | exact Below.refl _ _ | refine Agg.bel_drew ?_ | refine Agg.bel_alloc ?_ _)
    replace HB := Lib.hid (HB.out.trans (hb.mono HB.out.size))
    replace HDB := Lib.hid (HDB.out.keep hb)
    replace HVp := Lib.hid (HVp.out.keep hb)
    clear hb
    have H14 : Hid (Blk w92 w91.heap.size 26 [.int .i64 op.slot, .int .u64 (op.stamp : Int), .slice xp op.pages.length xpc, .int .i64 op.bytes]) := by show Blk _ _ _ _; rw [hw92.out]; exact Blk.new w91 26 #[.int .i64 op.slot, .int .u64 (op.stamp : Int), .slice xp op.pages.length xpc, .int .i64 op.bytes]
    clear hw92
    generalize w91.heap.size = g14 at *
    by_cases hon : o = none
    · obtain rfl : ec = 330 := by rw [← HEC.out, hon]; rfl
      obtain rfl : rt0 = op := by rw [← HOP.out, hon]; rfl
      clear hon
      go_upto_region 12 with (fail)
      refine Agg.listR 7 (by kernel_rfl) ?_
      simp only [List.take_succ_cons, List.take_zero, List.drop_succ_cons, List.drop_zero]
      refine Agg.chMove rfl rfl rfl rfl ?_
      refine Agg.chEq true (by decide) rfl rfl rfl rfl rfl ?_
      refine Agg.chMove rfl rfl rfl rfl ?_
      refine Agg.chRowB 4 H14.out rfl (by decide +kernel) rfl rfl rfl rfl ?_
      refine Agg.chBuild (v := .agg #[.int .i64 0, .int .u64 0, .slice none 0 0, .int .i64 0]) rfl rfl rfl rfl (fun W => by kernel_rfl) ?_
      refine Agg.chCall Try.func18 rfl (by kernel_rfl) rfl rfl rfl rfl (fun W hb => sameR_any rt0 rt0 _ _ W (RtR.keep HVp.out hb) (rt0_o 0 W).read true (by decide)) ?_
      refine Agg.chPick rfl rfl rfl rfl rfl ?_
      refine Agg.chEnd ?_
      intro vs w93 hb hf
      simp only [List.reverse, List.reverseAux, Agg.Facts] at hf
      obtain _ := hf
      simp only [List.reverse, List.reverseAux, Agg.fill, List.set_cons_succ, List.set_cons_zero]
      have hbe := HB.out.trans (hb.mono HB.out.size)
      go_wp2_with fail
      go_ret
      exact ⟨rfl, hbe⟩
    · obtain ⟨p, hp⟩ := Option.ne_none_iff_exists'.1 hon
      obtain rfl : ec = 0 := by rw [← HEC.out, hp]; rfl
      obtain rfl : p = op := by rw [← HOP.out, hp]; rfl
      obtain ⟨e1, e2, e3, e4⟩ := HSM.out p hp
      have hrt := (right_iff p).2 e2
      have HDP := Lib.hid (fun W v h => rtData_any p v W h (rtw_of e2))
      rw [hrt, if_pos rfl, if_pos rfl, e1] at HDP
      have HE3 := Lib.hid (And.intro e3 e4)
      clear hon hp e1 e2 e3 e4 hrt
      go_upto_region 13 with (fail)
      have h14 := H14.out
      go_wp2_with (refine Agg.gLoadB 4 h14 rfl rfl rfl rfl (by decide +kernel) ?_; simp only [Act.put, List.setIfInBounds_toArray, List.set_cons_succ, List.set_cons_zero])
      clear h14
      refine (HDP.out w92 _ HVp.out).mono ?_
      rintro e w94 ⟨u, rfl, hu, hb⟩
      replace HB := Lib.hid (HB.out.trans (hb.mono HB.out.size))
      replace HDB := Lib.hid (HDB.out.keep hb)
      replace HVp := Lib.hid (HVp.out.keep hb)
      replace H14 := Lib.hid (H14.out.keep hb)
      clear hb
      have HUD := Lib.hid hu
      obtain ⟨ud, udc, rfl, _, _⟩ := SlR.shape hu
      clear hu HDP
      rw [HDL.out] at HUD ⊢
      have q1 : (p.slot == n1) = true := by rw [HE3.out.1]; simp
      have q2 : ((p.stamp : Int) == (st : Int)) = true := by rw [HE3.out.2]; simp
      go_upto_region 14 with (fail)
      refine Agg.listR 19 (by kernel_rfl) ?_
      simp only [List.take_succ_cons, List.take_zero, List.drop_succ_cons, List.drop_zero]
      refine Agg.chMove rfl rfl rfl rfl ?_
      refine Agg.chEq true (by decide) rfl rfl rfl rfl rfl ?_
      refine Agg.chMove rfl rfl rfl rfl ?_
      refine Agg.chMove rfl rfl rfl rfl ?_
      refine Agg.chMove rfl rfl rfl rfl ?_
      refine Agg.chCall Try.func27 rfl (by kernel_rfl) rfl rfl rfl rfl (fun W hb => bEqual_any D D _ _ W (SlR.keep HUD.out hb) (SlR.keep HDB.out hb) true (by simp)) ?_
      refine Agg.chPick rfl rfl rfl rfl rfl ?_
      refine Agg.chMove rfl rfl rfl rfl ?_
      refine Agg.chFA fo_Rt_0 rfl rfl rfl rfl ?_
      refine Agg.chLoadB H14.out (by decide +kernel) rfl rfl (by rfl) rfl rfl ?_
      refine Agg.chMove rfl rfl rfl rfl ?_
      refine Agg.chEq true q1 rfl rfl rfl rfl rfl ?_
      refine Agg.chPick rfl rfl rfl rfl rfl ?_
      refine Agg.chMove rfl rfl rfl rfl ?_
      refine Agg.chFA fo_Rt_1 rfl rfl rfl rfl ?_
      refine Agg.chLoadB H14.out (by decide +kernel) rfl rfl (by rfl) rfl rfl ?_
      refine Agg.chMove rfl rfl rfl rfl ?_
      refine Agg.chEq true q2 rfl rfl rfl rfl rfl ?_
      refine Agg.chPick rfl rfl rfl rfl rfl ?_
      refine Agg.chEnd ?_
      intro vs w95 hb hf
      simp only [List.reverse, List.reverseAux, Agg.Facts] at hf
      obtain _ := hf
      simp only [List.reverse, List.reverseAux, Agg.fill, List.set_cons_succ, List.set_cons_zero]
      have hbe := HB.out.trans (hb.mono HB.out.size)
      go_wp2_with fail
      go_ret
      exact ⟨rfl, hbe⟩
end Go.Proofs.Ytjnnnnolikbjcaa
