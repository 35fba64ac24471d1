/-
  THE WALK OF LAYER 23's STATEMENT RootFinds.
-/
import Derived.Test.YtjnnnnolikbjcaaRtN8
import Derived.Test.YtjnnnnolikbjcaaRtL1
namespace Go.Proofs.Ytjnnnnolikbjcaa
open Go.ChangeShapes Go.WideShapes Go.ChangeAt Go.RowKit Agg Pg Dv
attribute [local go_sem] Oper.semAt_some

theorem why_zero {d : Dev} (h : whyD d = 0) : rightD d = true := by
  unfold whyD at h
  cases hr : rightD d with
  | true => rfl
  | false => rw [hr, if_pos rfl] at h; cases h
set_option maxHeartbeats 8000000 in
set_option maxRecDepth 100000 in
theorem RootFinds_walk (c0 : Array Value) (f0 : Nat) (s : Int) (w : World) (g0 : Agg.Good Try.prog w f0 30 c0.toList) (w1 : (Lit.int .i64 s).wf = true) :
    Calls Try.prog 4 #[.agg c0, .int .i64 s] w fun e w' => e = .returned (.bool true) ∧ Below w.heap.size w w' := by
  obtain ⟨d0, hD0, hW, hf1, hf2⟩ := good_dev g0
  obtain ⟨hs1, hs2⟩ := i64_range w1
  obtain ⟨qx, qpc, qy, qcy, hcc⟩ := hD0.shape
  have hG := ownD_good hW
  have hL := ownD_len d0
  have HOW := Lib.hid (fun W v h => lown_any d0 v W hW hf1 hf2 h)
  obtain ⟨d, hdd⟩ : ∃ d, ownD d0 = d := ⟨_, rfl⟩
  rw [hdd] at hG hL HOW
  obtain ⟨r, hr⟩ : ∃ x, (if whyD d ≠ 0 then rt0 else (findR d).getD rt0) = x := ⟨_, rfl⟩
  obtain ⟨e, he⟩ : ∃ x : Int, (if whyD d ≠ 0 then whyD d else if (findR d).isSome then (0 : Int) else 331) = x := ⟨_, rfl⟩
  obtain ⟨a, ha⟩ : ∃ x, (if whyD d ≠ 0 then rt0 else (inS d s).1) = x := ⟨_, rfl⟩
  obtain ⟨f, hf⟩ : ∃ x : Int, (if whyD d ≠ 0 then whyD d else (inS d s).2) = x := ⟨_, rfl⟩
  have HF := Lib.hid (fun W v h => find_any d v W hG (by omega) h r e hr he)
  have HA := Lib.hid (fun W v h => inX_any d s v W hG (by omega) h hs1 hs2 a f ha hf)
  obtain ⟨wv, hwv⟩ : ∃ x, whyD d = x := ⟨_, rfl⟩
  have HY := Lib.hid (fun W v h => why_any d v W hG h wv hwv)
  have HN : Hid (wv ≠ 0 → r = rt0 ∧ e = wv ∧ a = rt0 ∧ f = wv) := Lib.hid (fun h => by
    rw [hwv, if_pos h] at hr he ha hf
    exact ⟨hr.symm, he.symm, ha.symm, hf.symm⟩)
  obtain ⟨o, ho⟩ : ∃ x, findR d = x := ⟨_, rfl⟩
  obtain ⟨qo, hqo⟩ : ∃ x, o.isSome = x := ⟨_, rfl⟩
  have HFD : Hid (wv = 0 → (if qo = true then (0 : Int) else 331) = e ∧ ∀ W v, DevR W v d → Calls Try.prog 23 #[v] W fun e w' => ∃ u, e = .returned (.tuple #[u, .bool qo]) ∧ RtO W.heap.size w' u r ∧ Below W.heap.size W w') := Lib.hid (fun h => by
    rw [hwv, h, if_neg (by decide)] at hr he
    have hl := (right_six (why_zero (hwv.trans h))).1
    rw [ho, hqo] at he
    refine ⟨he, fun W v hv => ?_⟩
    have h2 := dFind_any d v W hG (by omega) hv (by omega) o ho
    rw [hqo, ← ho, hr] at h2
    exact h2)
  obtain ⟨oi, hoi⟩ : ∃ x, inR d s = x := ⟨_, rfl⟩
  obtain ⟨qi, hqi⟩ : ∃ x, oi.isSome = x := ⟨_, rfl⟩
  have HID : Hid (wv = 0 → (s = 0 ∨ s = 1) → (if qi = true then (0 : Int) else 331) = f ∧ ∀ W v, DevR W v d → Calls Try.prog 24 #[v, .int .i64 s] W fun e w' => ∃ u, e = .returned (.tuple #[u, .bool qi]) ∧ RtO W.heap.size w' u a ∧ Below W.heap.size W w') := Lib.hid (fun h hs => by
    rw [hwv, h, if_neg (by decide)] at ha hf
    unfold inS at ha hf
    rw [if_pos hs] at ha hf
    dsimp only at ha hf
    have hl := (right_six (why_zero (hwv.trans h))).1
    rw [hoi, hqi] at hf
    refine ⟨hf, fun W v hv => ?_⟩
    have h2 := dIn_any d s v W hG (by omega) hv (by omega) hs oi hoi
    rw [hqi, ← hoi, ha] at h2
    exact h2)
  have HIN : Hid (wv = 0 → ¬(s = 0 ∨ s = 1) → a = rt0 ∧ f = 2) := Lib.hid (fun h hs => by
    rw [hwv, h, if_neg (by decide)] at ha hf
    unfold inS at ha hf
    rw [if_neg hs] at ha hf
    exact ⟨ha.symm, hf.symm⟩)
  have HD0 := Lib.hid hD0
  rw [hcc] at HD0 ⊢
  clear hr he ha hf hdd g0 hD0 hW hf1 hf2 hcc hG hL hwv ho hqo hoi hqi w1
  have HB := Lib.hid (Below.refl w.heap.size w)
  go_enter Try.func4, Try.ntmps4
  go_upto_region 1 with (fail)
  refine Agg.wp_at fun w1 hw1 => ?_
  have hb : Below w.heap.size w w1 := by rw [hw1.out]; repeat (first | exact Below.refl _ _ | refine Agg.bel_drew ?_ | refine Agg.bel_alloc ?_ _)
  replace HB := Lib.hid (HB.out.trans (hb.mono HB.out.size))
  replace HD0 := Lib.hid (HD0.out.keep hb)
  clear hb
  have H2 : Hid (Blk w1 w.heap.size 30 [.slice qx d0.pages.length qpc, .slice qy d0.cache.length qcy, .int .i64 d0.fuse, .bool d0.off]) := by show Blk _ _ _ _; rw [hw1.out]; exact Blk.new w 30 #[.slice qx d0.pages.length qpc, .slice qy d0.cache.length qcy, .int .i64 d0.fuse, .bool d0.off]
  clear hw1
  go_wp2_with fail
  refine (wakes_any w1).mono ?_
  rintro e w2 ⟨rfl, hb⟩
  replace HB := Lib.hid (HB.out.trans (hb.mono HB.out.size))
  replace HD0 := Lib.hid (HD0.out.keep hb)
  replace H2 := Lib.hid (H2.out.keep hb)
  clear hb
  have h2 := H2.out
  go_wp2_with (refine Agg.gLoadB 4 h2 rfl rfl rfl rfl (by decide +kernel) ?_; simp only [Act.put, List.setIfInBounds_toArray, List.set_cons_succ, List.set_cons_zero])
  clear h2
  refine (HOW.out w2 _ HD0.out).mono ?_
  rintro e w3 ⟨u, rfl, hu, hb⟩
  replace HB := Lib.hid (HB.out.trans (hb.mono HB.out.size))
  replace HD0 := Lib.hid (HD0.out.keep hb)
  replace H2 := Lib.hid (H2.out.keep hb)
  clear hb
  have HU := Lib.hid hu.read
  obtain ⟨px, pc, cx, cc, rfl⟩ := DevR.shape HU.out
  clear hu HOW
  go_upto_region 4 with (first
    | (refine Agg.allocRow 30 #[.slice none 0 0, .slice none 0 0, .int .i64 0, .bool false] rfl rfl (by kernel_rfl) ?_; simp only [Act.put, List.setIfInBounds_toArray, List.set_cons_succ, List.set_cons_zero])
    | (refine Agg.gStoreNew 4 [.slice px d.pages.length pc, .slice cx d.cache.length cc, .int .i64 d.fuse, .bool d.off] rfl rfl rfl rfl rfl rfl (by decide +kernel) rfl rfl (by simp [Value.oneCell']) ?_; simp only [Act.put]))
  refine Agg.wp_at fun w4 hw4 => ?_
  have hb : Below w3.heap.size w3 w4 := by rw [hw4.out]; repeat (first | exact Below.refl _ _ | refine Agg.bel_drew ?_ | refine Agg.bel_alloc ?_ _)
  replace HB := Lib.hid (HB.out.trans (hb.mono HB.out.size))
  replace HU := Lib.hid (HU.out.keep hb)
  clear hb
  have H5 : Hid (Blk w4 w3.heap.size 30 [.slice px d.pages.length pc, .slice cx d.cache.length cc, .int .i64 d.fuse, .bool d.off]) := by show Blk _ _ _ _; rw [hw4.out]; exact Blk.new w3 30 #[.slice px d.pages.length pc, .slice cx d.cache.length cc, .int .i64 d.fuse, .bool d.off]
  clear hw4
  generalize w3.heap.size = g5 at *
  have h5 := H5.out
  go_wp2_with (refine Agg.gLoadB 4 h5 rfl rfl rfl rfl (by decide +kernel) ?_; simp only [Act.put, List.setIfInBounds_toArray, List.set_cons_succ, List.set_cons_zero])
  clear h5
  refine (HA.out w4 _ HU.out).mono ?_
  rintro e w5 ⟨v, rfl, hv, hb⟩
  replace HB := Lib.hid (HB.out.trans (hb.mono HB.out.size))
  replace HU := Lib.hid (HU.out.keep hb)
  replace H5 := Lib.hid (H5.out.keep hb)
  clear hb
  have HVa := Lib.hid hv.read
  obtain ⟨sla, hvv, hvo⟩ := hv
  obtain ⟨xa, xca, rfl, _, _⟩ := (ownSl hvo).shape
  unfold rtV at hvv
  subst hvv
  clear hvo
  go_upto_region 5 with (first
    | (refine Agg.allocRow 26 #[.int .i64 0, .int .u64 0, .slice none 0 0, .int .i64 0] rfl rfl (by kernel_rfl) ?_; simp only [Act.put, List.setIfInBounds_toArray, List.set_cons_succ, List.set_cons_zero])
    | (refine Agg.gStoreNew 4 [.int .i64 a.slot, .int .u64 (a.stamp : Int), .slice xa a.pages.length xca, .int .i64 a.bytes] rfl rfl rfl rfl rfl rfl (by decide +kernel) rfl rfl (by simp [Value.oneCell']) ?_; simp only [Act.put]))
  refine Agg.wp_at fun w6 hw6 => ?_
  have hb : Below w5.heap.size w5 w6 := by rw [hw6.out]; repeat (first | exact Below.refl _ _ | refine Agg.bel_drew ?_ | refine Agg.bel_alloc ?_ _)
  replace HB := Lib.hid (HB.out.trans (hb.mono HB.out.size))
  replace HU := Lib.hid (HU.out.keep hb)
  replace H5 := Lib.hid (H5.out.keep hb)
  replace HVa := Lib.hid (HVa.out.keep hb)
  clear hb
  have H6 : Hid (Blk w6 w5.heap.size 26 [.int .i64 a.slot, .int .u64 (a.stamp : Int), .slice xa a.pages.length xca, .int .i64 a.bytes]) := by show Blk _ _ _ _; rw [hw6.out]; exact Blk.new w5 26 #[.int .i64 a.slot, .int .u64 (a.stamp : Int), .slice xa a.pages.length xca, .int .i64 a.bytes]
  clear hw6
  generalize w5.heap.size = g6 at *
  have h5 := H5.out
  go_wp2_with (refine Agg.gLoadB 4 h5 rfl rfl rfl rfl (by decide +kernel) ?_; simp only [Act.put, List.setIfInBounds_toArray, List.set_cons_succ, List.set_cons_zero])
  clear h5
  refine (HF.out w6 _ HU.out).mono ?_
  rintro e w7 ⟨v, rfl, hv, hb⟩
  replace HB := Lib.hid (HB.out.trans (hb.mono HB.out.size))
  replace HU := Lib.hid (HU.out.keep hb)
  replace H5 := Lib.hid (H5.out.keep hb)
  replace HVa := Lib.hid (HVa.out.keep hb)
  replace H6 := Lib.hid (H6.out.keep hb)
  clear hb
  have HVr := Lib.hid hv.read
  obtain ⟨slr, hvv, hvo⟩ := hv
  obtain ⟨xr, xcr, rfl, _, _⟩ := (ownSl hvo).shape
  unfold rtV at hvv
  subst hvv
  clear hvo
  go_upto_region 6 with (first
    | (refine Agg.allocRow 26 #[.int .i64 0, .int .u64 0, .slice none 0 0, .int .i64 0] rfl rfl (by kernel_rfl) ?_; simp only [Act.put, List.setIfInBounds_toArray, List.set_cons_succ, List.set_cons_zero])
    | (refine Agg.gStoreNew 4 [.int .i64 r.slot, .int .u64 (r.stamp : Int), .slice xr r.pages.length xcr, .int .i64 r.bytes] rfl rfl rfl rfl rfl rfl (by decide +kernel) rfl rfl (by simp [Value.oneCell']) ?_; simp only [Act.put]))
  refine Agg.wp_at fun w8 hw8 => ?_
  have hb : Below w7.heap.size w7 w8 := by rw [hw8.out]; repeat (first | exact Below.refl _ _ | refine Agg.bel_drew ?_ | refine Agg.bel_alloc ?_ _)
  replace HB := Lib.hid (HB.out.trans (hb.mono HB.out.size))
  replace HU := Lib.hid (HU.out.keep hb)
  replace H5 := Lib.hid (H5.out.keep hb)
  replace HVa := Lib.hid (HVa.out.keep hb)
  replace H6 := Lib.hid (H6.out.keep hb)
  replace HVr := Lib.hid (HVr.out.keep hb)
  clear hb
  have H8 : Hid (Blk w8 w7.heap.size 26 [.int .i64 r.slot, .int .u64 (r.stamp : Int), .slice xr r.pages.length xcr, .int .i64 r.bytes]) := by show Blk _ _ _ _; rw [hw8.out]; exact Blk.new w7 26 #[.int .i64 r.slot, .int .u64 (r.stamp : Int), .slice xr r.pages.length xcr, .int .i64 r.bytes]
  clear hw8
  generalize w7.heap.size = g8 at *
  have h5 := H5.out
  go_wp2_with (refine Agg.gLoadB 4 h5 rfl rfl rfl rfl (by decide +kernel) ?_; simp only [Act.put, List.setIfInBounds_toArray, List.set_cons_succ, List.set_cons_zero])
  clear h5
  refine (HY.out w8 _ HU.out).mono ?_
  rintro e w9 ⟨rfl, hb⟩
  replace HB := Lib.hid (HB.out.trans (hb.mono HB.out.size))
  replace HU := Lib.hid (HU.out.keep hb)
  replace H5 := Lib.hid (H5.out.keep hb)
  replace HVa := Lib.hid (HVa.out.keep hb)
  replace H6 := Lib.hid (H6.out.keep hb)
  replace HVr := Lib.hid (HVr.out.keep hb)
  replace H8 := Lib.hid (H8.out.keep hb)
  clear hb
  clear HF HA HY
  by_cases hw : wv ≠ 0
  · obtain ⟨rfl, rfl, rfl, rfl⟩ := HN.out hw
    have hw0 : (f != 0) = true := by simpa using hw
    have hww : (f == f) = true := by simp
    clear hw
    go_upto_region 8 with (fail)
    refine Agg.listR 18 (by kernel_rfl) ?_
    simp only [List.take_succ_cons, List.take_zero, List.drop_succ_cons, List.drop_zero]
    refine Agg.chMove rfl rfl rfl rfl ?_
    refine Agg.chMove rfl rfl rfl rfl ?_
    refine Agg.chEq true hww rfl rfl rfl rfl rfl ?_
    refine Agg.chMove rfl rfl rfl rfl ?_
    refine Agg.chMove rfl rfl rfl rfl ?_
    refine Agg.chMove rfl rfl rfl rfl ?_
    refine Agg.chEq true hww rfl rfl rfl rfl rfl ?_
    refine Agg.chPick rfl rfl rfl rfl rfl ?_
    refine Agg.chMove rfl rfl rfl rfl ?_
    refine Agg.chRowB 4 H6.out rfl (by decide +kernel) rfl rfl rfl rfl ?_
    refine Agg.chBuild (v := .agg #[.int .i64 0, .int .u64 0, .slice none 0 0, .int .i64 0]) rfl rfl rfl rfl (fun W => by kernel_rfl) ?_
    refine Agg.chCall Try.func22 rfl (by kernel_rfl) rfl rfl rfl rfl (fun W hb => dSame_any rt0 rt0 _ _ W (RtR.keep HVa.out hb) (rt0_o 0 W).read true (by decide)) ?_
    refine Agg.chPick rfl rfl rfl rfl rfl ?_
    refine Agg.chMove rfl rfl rfl rfl ?_
    refine Agg.chRowB 4 H8.out rfl (by decide +kernel) rfl rfl rfl rfl ?_
    refine Agg.chBuild (v := .agg #[.int .i64 0, .int .u64 0, .slice none 0 0, .int .i64 0]) rfl rfl rfl rfl (fun W => by kernel_rfl) ?_
    refine Agg.chCall Try.func22 rfl (by kernel_rfl) rfl rfl rfl rfl (fun W hb => dSame_any rt0 rt0 _ _ W (RtR.keep HVr.out hb) (rt0_o 0 W).read true (by decide)) ?_
    refine Agg.chPick rfl rfl rfl rfl rfl ?_
    refine Agg.chEnd ?_
    intro vs w10 hb hf
    simp only [List.reverse, List.reverseAux, Agg.Facts] at hf
    obtain _ := hf
    simp only [List.reverse, List.reverseAux, Agg.fill, List.set_cons_succ, List.set_cons_zero]
    have hbe := HB.out.trans (hb.mono HB.out.size)
    go_wp2_with fail
    go_ret
    exact ⟨rfl, hbe⟩
  · have hw0 : wv = 0 := by omega
    clear hw
    subst hw0
    obtain ⟨hqe, hfd⟩ := HFD.out rfl
    have HQE := Lib.hid hqe
    have HFE := Lib.hid hfd
    clear hqe hfd HFD HN
    have h5 := H5.out
    go_wp2_with (refine Agg.gLoadB 4 h5 rfl rfl rfl rfl (by decide +kernel) ?_; simp only [Act.put, List.setIfInBounds_toArray, List.set_cons_succ, List.set_cons_zero])
    clear h5
    refine (HFE.out w9 _ HU.out).mono ?_
    rintro e w11 ⟨v, rfl, hv, hb⟩
    replace HB := Lib.hid (HB.out.trans (hb.mono HB.out.size))
    replace HU := Lib.hid (HU.out.keep hb)
    replace H5 := Lib.hid (H5.out.keep hb)
    replace HVa := Lib.hid (HVa.out.keep hb)
    replace H6 := Lib.hid (H6.out.keep hb)
    replace HVr := Lib.hid (HVr.out.keep hb)
    replace H8 := Lib.hid (H8.out.keep hb)
    clear hb
    have HVq := Lib.hid hv.read
    obtain ⟨slq, hvv, hvo⟩ := hv
    obtain ⟨xq, xcq, rfl, _, _⟩ := (ownSl hvo).shape
    unfold rtV at hvv
    subst hvv
    clear hvo
    go_upto_region 10 with (first
      | (refine Agg.allocRow 26 #[.int .i64 0, .int .u64 0, .slice none 0 0, .int .i64 0] rfl rfl (by kernel_rfl) ?_; simp only [Act.put, List.setIfInBounds_toArray, List.set_cons_succ, List.set_cons_zero])
      | (refine Agg.gStoreNew 4 [.int .i64 r.slot, .int .u64 (r.stamp : Int), .slice xq r.pages.length xcq, .int .i64 r.bytes] rfl rfl rfl rfl rfl rfl (by decide +kernel) rfl rfl (by simp [Value.oneCell']) ?_; simp only [Act.put]))
    refine Agg.wp_at fun w12 hw12 => ?_
    have hb : Below w11.heap.size w11 w12 := by rw [hw12.out]; repeat (first | exact Below.refl _ _ | refine Agg.bel_drew ?_ | refine Agg.bel_alloc ?_ _)
    replace HB := Lib.hid (HB.out.trans (hb.mono HB.out.size))
    replace HU := Lib.hid (HU.out.keep hb)
    replace H5 := Lib.hid (H5.out.keep hb)
    replace HVa := Lib.hid (HVa.out.keep hb)
    replace H6 := Lib.hid (H6.out.keep hb)
    replace HVr := Lib.hid (HVr.out.keep hb)
    replace H8 := Lib.hid (H8.out.keep hb)
    replace HVq := Lib.hid (HVq.out.keep hb)
    clear hb
    have H11 : Hid (Blk w12 w11.heap.size 26 [.int .i64 r.slot, .int .u64 (r.stamp : Int), .slice xq r.pages.length xcq, .int .i64 r.bytes]) := by show Blk _ _ _ _; rw [hw12.out]; exact Blk.new w11 26 #[.int .i64 r.slot, .int .u64 (r.stamp : Int), .slice xq r.pages.length xcq, .int .i64 r.bytes]
    clear hw12
    generalize w11.heap.size = g11 at *
    obtain ⟨wZ, hwZ⟩ : ∃ x, x = w12 := ⟨_, rfl⟩
    subst hwZ
    have HBZ := HB
    have HUZ := HU
    have H5Z := H5
    have HVaZ := HVa
    have H6Z := H6
    have HVrZ := HVr
    have H8Z := H8
    have HVqZ := HVq
    have H11Z := H11
    clear HB HU H5 HVa H6 HVr H8 HVq H11
    go_cut [73] from 56 to 73 (fun s' wx => s' = .bool false ∧ Below wZ.heap.size wZ wx)
    case first =>
      have HB := Lib.hid (Below.refl wZ.heap.size wZ)
      have HVr := HVrZ
      have H8 := H8Z
      have HVq := HVqZ
      have H11 := H11Z
      rcases (show qo = true ∨ qo = false by cases qo <;> simp) with rfl | rfl
      · obtain rfl : e = 0 := by rw [← HQE.out]; rfl
        refine Agg.listR 18 (by kernel_rfl) ?_
        simp only [List.take_succ_cons, List.take_zero, List.drop_succ_cons, List.drop_zero]
        refine Agg.chMove rfl rfl rfl rfl ?_
        refine Agg.chMove rfl rfl rfl rfl ?_
        refine Agg.chEq true (by decide) rfl rfl rfl rfl rfl ?_
        refine Agg.chNeB false Try.underlying4 (by decide) rfl rfl rfl rfl rfl ?_
        refine Agg.chMove rfl rfl rfl rfl ?_
        refine Agg.chMove rfl rfl rfl rfl ?_
        refine Agg.chNot rfl rfl rfl rfl ?_
        refine Agg.chMove rfl rfl rfl rfl ?_
        refine Agg.chSkip rfl rfl ?_
        refine Agg.chSkip rfl rfl ?_
        refine Agg.chPick rfl rfl rfl rfl rfl ?_
        refine Agg.chPick rfl rfl rfl rfl rfl ?_
        refine Agg.chMove rfl rfl rfl rfl ?_
        refine Agg.chRowB 4 H8.out rfl (by decide +kernel) rfl rfl rfl rfl ?_
        refine Agg.chRowB 4 H11.out rfl (by decide +kernel) rfl rfl rfl rfl ?_
        refine Agg.chCall Try.func22 rfl (by kernel_rfl) rfl rfl rfl rfl (fun W hb => dSame_any r r _ _ W (RtR.keep HVr.out hb) (RtR.keep HVq.out hb) true (by simp)) ?_
        refine Agg.chNot rfl rfl rfl rfl ?_
        refine Agg.chPick rfl rfl rfl rfl rfl ?_
        refine Agg.chEnd ?_
        intro vs w41 hb _
        show Exit.then _ _ Exit.normal _ _
        simp only [List.reverse, List.reverseAux, Agg.fill, List.set_cons_succ, List.set_cons_zero]
        replace HB := Lib.hid (HB.out.trans (hb.mono HB.out.size))
        replace HVr := Lib.hid (HVr.out.keep hb)
        replace H8 := Lib.hid (H8.out.keep hb)
        replace HVq := Lib.hid (HVq.out.keep hb)
        replace H11 := Lib.hid (H11.out.keep hb)
        clear hb
        go_wp2_with fail
        go_meet
        exact ⟨rfl, HB.out⟩
      · obtain rfl : e = 331 := by rw [← HQE.out]; rfl
        refine Agg.listR 18 (by kernel_rfl) ?_
        simp only [List.take_succ_cons, List.take_zero, List.drop_succ_cons, List.drop_zero]
        refine Agg.chMove rfl rfl rfl rfl ?_
        refine Agg.chMove rfl rfl rfl rfl ?_
        refine Agg.chEq false (by decide) rfl rfl rfl rfl rfl ?_
        refine Agg.chNeB false Try.underlying4 (by decide) rfl rfl rfl rfl rfl ?_
        refine Agg.chMove rfl rfl rfl rfl ?_
        refine Agg.chMove rfl rfl rfl rfl ?_
        refine Agg.chNot rfl rfl rfl rfl ?_
        refine Agg.chMove rfl rfl rfl rfl ?_
        refine Agg.chMove rfl rfl rfl rfl ?_
        refine Agg.chNe false (by decide) rfl rfl rfl rfl rfl ?_
        refine Agg.chPick rfl rfl rfl rfl rfl ?_
        refine Agg.chPick rfl rfl rfl rfl rfl ?_
        refine Agg.chMove rfl rfl rfl rfl ?_
        refine Agg.chRowB 4 H8.out rfl (by decide +kernel) rfl rfl rfl rfl ?_
        refine Agg.chRowB 4 H11.out rfl (by decide +kernel) rfl rfl rfl rfl ?_
        refine Agg.chCall Try.func22 rfl (by kernel_rfl) rfl rfl rfl rfl (fun W hb => dSame_any r r _ _ W (RtR.keep HVr.out hb) (RtR.keep HVq.out hb) true (by simp)) ?_
        refine Agg.chNot rfl rfl rfl rfl ?_
        refine Agg.chPick rfl rfl rfl rfl rfl ?_
        refine Agg.chEnd ?_
        intro vs w42 hb _
        show Exit.then _ _ Exit.normal _ _
        simp only [List.reverse, List.reverseAux, Agg.fill, List.set_cons_succ, List.set_cons_zero]
        replace HB := Lib.hid (HB.out.trans (hb.mono HB.out.size))
        replace HVr := Lib.hid (HVr.out.keep hb)
        replace H8 := Lib.hid (H8.out.keep hb)
        replace HVq := Lib.hid (HVq.out.keep hb)
        replace H11 := Lib.hid (H11.out.keep hb)
        clear hb
        go_wp2_with fail
        go_meet
        exact ⟨rfl, HB.out⟩
    case rest =>
      obtain ⟨rfl, hbc⟩ := hcut
      have HB := Lib.hid (HBZ.out.trans (hbc.mono HBZ.out.size))
      have HU := Lib.hid (HUZ.out.keep hbc)
      have H5 := Lib.hid (H5Z.out.keep hbc)
      have HVa := Lib.hid (HVaZ.out.keep hbc)
      have H6 := Lib.hid (H6Z.out.keep hbc)
      clear hbc HBZ HUZ H5Z HVaZ H6Z HVrZ H8Z HVqZ H11Z
      by_cases hs : s = 0 ∨ s = 1
      · obtain ⟨hqf, hid⟩ := HID.out trivial hs
        have HQF := Lib.hid hqf
        have HIE := Lib.hid hid
        clear hqf hid HID HIN
        go_upto_region 12 with (fail)
        obtain ⟨wY, hwY⟩ : ∃ x, x = wc := ⟨_, rfl⟩
        subst hwY
        have HBY := HB
        have HUY := HU
        have H5Y := H5
        have HVaY := HVa
        have H6Y := H6
        clear HB HU H5 HVa H6
        go_cut [79] from 74 to 79 (fun s' wx => s' = .bool false ∧ Below wY.heap.size wY wx)
        case first =>
          have HB := Lib.hid (Below.refl wY.heap.size wY)
          rcases hs with rfl | rfl
          · skip
            refine Agg.listR 6 (by kernel_rfl) ?_
            simp only [List.take_succ_cons, List.take_zero, List.drop_succ_cons, List.drop_zero]
            refine Agg.chMove rfl rfl rfl rfl ?_
            refine Agg.chNe false (by decide) rfl rfl rfl rfl rfl ?_
            refine Agg.chMove rfl rfl rfl rfl ?_
            refine Agg.chSkip rfl rfl ?_
            refine Agg.chSkip rfl rfl ?_
            refine Agg.chPick rfl rfl rfl rfl rfl ?_
            refine Agg.chEnd ?_
            intro vs w81 hb _
            show Exit.then _ _ Exit.normal _ _
            simp only [List.reverse, List.reverseAux, Agg.fill, List.set_cons_succ, List.set_cons_zero]
            replace HB := Lib.hid (HB.out.trans (hb.mono HB.out.size))
            clear hb
            go_wp2_with fail
            go_meet
            exact ⟨rfl, HB.out⟩
          · skip
            refine Agg.listR 6 (by kernel_rfl) ?_
            simp only [List.take_succ_cons, List.take_zero, List.drop_succ_cons, List.drop_zero]
            refine Agg.chMove rfl rfl rfl rfl ?_
            refine Agg.chNe true (by decide) rfl rfl rfl rfl rfl ?_
            refine Agg.chMove rfl rfl rfl rfl ?_
            refine Agg.chMove rfl rfl rfl rfl ?_
            refine Agg.chNe false (by decide) rfl rfl rfl rfl rfl ?_
            refine Agg.chPick rfl rfl rfl rfl rfl ?_
            refine Agg.chEnd ?_
            intro vs w82 hb _
            show Exit.then _ _ Exit.normal _ _
            simp only [List.reverse, List.reverseAux, Agg.fill, List.set_cons_succ, List.set_cons_zero]
            replace HB := Lib.hid (HB.out.trans (hb.mono HB.out.size))
            clear hb
            go_wp2_with fail
            go_meet
            exact ⟨rfl, HB.out⟩
        case rest =>
          obtain ⟨rfl, hbc⟩ := hcut
          have HB := Lib.hid (HBY.out.trans (hbc.mono HBY.out.size))
          have HU := Lib.hid (HUY.out.keep hbc)
          have H5 := Lib.hid (H5Y.out.keep hbc)
          have HVa := Lib.hid (HVaY.out.keep hbc)
          have H6 := Lib.hid (H6Y.out.keep hbc)
          clear hbc HBY HUY H5Y HVaY H6Y
          have h5 := H5.out
          go_wp2_with (refine Agg.gLoadB 4 h5 rfl rfl rfl rfl (by decide +kernel) ?_; simp only [Act.put, List.setIfInBounds_toArray, List.set_cons_succ, List.set_cons_zero])
          clear h5
          refine (HIE.out wc _ HU.out).mono ?_
          rintro e w91 ⟨v, rfl, hv, hb⟩
          replace HB := Lib.hid (HB.out.trans (hb.mono HB.out.size))
          replace HU := Lib.hid (HU.out.keep hb)
          replace H5 := Lib.hid (H5.out.keep hb)
          replace HVa := Lib.hid (HVa.out.keep hb)
          replace H6 := Lib.hid (H6.out.keep hb)
          clear hb
          have HVp := Lib.hid hv.read
          obtain ⟨slp, hvv, hvo⟩ := hv
          obtain ⟨xp, xcp, rfl, _, _⟩ := (ownSl hvo).shape
          unfold rtV at hvv
          subst hvv
          clear hvo
          go_upto_region 15 with (first
            | (refine Agg.allocRow 26 #[.int .i64 0, .int .u64 0, .slice none 0 0, .int .i64 0] rfl rfl (by kernel_rfl) ?_; simp only [Act.put, List.setIfInBounds_toArray, List.set_cons_succ, List.set_cons_zero])
            | (refine Agg.gStoreNew 4 [.int .i64 a.slot, .int .u64 (a.stamp : Int), .slice xp a.pages.length xcp, .int .i64 a.bytes] rfl rfl rfl rfl rfl rfl (by decide +kernel) rfl rfl (by simp [Value.oneCell']) ?_; simp only [Act.put]))
          refine Agg.wp_at fun w92 hw92 => ?_
          have hb : Below w91.heap.size w91 w92 := by rw [hw92.out]; repeat (first | exact Below.refl _ _ | refine Agg.bel_drew ?_ | refine Agg.bel_alloc ?_ _)
          replace HB := Lib.hid (HB.out.trans (hb.mono HB.out.size))
          replace HVa := Lib.hid (HVa.out.keep hb)
          replace H6 := Lib.hid (H6.out.keep hb)
          replace HVp := Lib.hid (HVp.out.keep hb)
          clear hb
          have H13 : Hid (Blk w92 w91.heap.size 26 [.int .i64 a.slot, .int .u64 (a.stamp : Int), .slice xp a.pages.length xcp, .int .i64 a.bytes]) := by show Blk _ _ _ _; rw [hw92.out]; exact Blk.new w91 26 #[.int .i64 a.slot, .int .u64 (a.stamp : Int), .slice xp a.pages.length xcp, .int .i64 a.bytes]
          clear hw92
          generalize w91.heap.size = g13 at *
          rcases (show qi = true ∨ qi = false by cases qi <;> simp) with rfl | rfl
          · obtain rfl : f = 0 := by rw [← HQF.out]; rfl
            refine Agg.listR 16 (by kernel_rfl) ?_
            simp only [List.take_succ_cons, List.take_zero, List.drop_succ_cons, List.drop_zero]
            refine Agg.chMove rfl rfl rfl rfl ?_
            refine Agg.chMove rfl rfl rfl rfl ?_
            refine Agg.chEq true (by decide) rfl rfl rfl rfl rfl ?_
            refine Agg.chEqB true Try.underlying4 (by decide) rfl rfl rfl rfl rfl ?_
            refine Agg.chMove rfl rfl rfl rfl ?_
            refine Agg.chMove rfl rfl rfl rfl ?_
            refine Agg.chMove rfl rfl rfl rfl ?_
            refine Agg.chSkip rfl rfl ?_
            refine Agg.chSkip rfl rfl ?_
            refine Agg.chPick rfl rfl rfl rfl rfl ?_
            refine Agg.chPick rfl rfl rfl rfl rfl ?_
            refine Agg.chMove rfl rfl rfl rfl ?_
            refine Agg.chRowB 4 H6.out rfl (by decide +kernel) rfl rfl rfl rfl ?_
            refine Agg.chRowB 4 H13.out rfl (by decide +kernel) rfl rfl rfl rfl ?_
            refine Agg.chCall Try.func22 rfl (by kernel_rfl) rfl rfl rfl rfl (fun W hb => dSame_any a a _ _ W (RtR.keep HVa.out hb) (RtR.keep HVp.out hb) true (by simp)) ?_
            refine Agg.chPick rfl rfl rfl rfl rfl ?_
            refine Agg.chEnd ?_
            intro vs w93 hb hf
            simp only [List.reverse, List.reverseAux, Agg.Facts] at hf
            obtain _ := hf
            simp only [List.reverse, List.reverseAux, Agg.fill, List.set_cons_succ, List.set_cons_zero]
            have hbe := HB.out.trans (hb.mono HB.out.size)
            go_wp2_with fail
            go_ret
            exact ⟨rfl, hbe⟩
          · obtain rfl : f = 331 := by rw [← HQF.out]; rfl
            refine Agg.listR 16 (by kernel_rfl) ?_
            simp only [List.take_succ_cons, List.take_zero, List.drop_succ_cons, List.drop_zero]
            refine Agg.chMove rfl rfl rfl rfl ?_
            refine Agg.chMove rfl rfl rfl rfl ?_
            refine Agg.chEq false (by decide) rfl rfl rfl rfl rfl ?_
            refine Agg.chEqB true Try.underlying4 (by decide) rfl rfl rfl rfl rfl ?_
            refine Agg.chMove rfl rfl rfl rfl ?_
            refine Agg.chMove rfl rfl rfl rfl ?_
            refine Agg.chMove rfl rfl rfl rfl ?_
            refine Agg.chMove rfl rfl rfl rfl ?_
            refine Agg.chEq true (by decide) rfl rfl rfl rfl rfl ?_
            refine Agg.chPick rfl rfl rfl rfl rfl ?_
            refine Agg.chPick rfl rfl rfl rfl rfl ?_
            refine Agg.chMove rfl rfl rfl rfl ?_
            refine Agg.chRowB 4 H6.out rfl (by decide +kernel) rfl rfl rfl rfl ?_
            refine Agg.chRowB 4 H13.out rfl (by decide +kernel) rfl rfl rfl rfl ?_
            refine Agg.chCall Try.func22 rfl (by kernel_rfl) rfl rfl rfl rfl (fun W hb => dSame_any a a _ _ W (RtR.keep HVa.out hb) (RtR.keep HVp.out hb) true (by simp)) ?_
            refine Agg.chPick rfl rfl rfl rfl rfl ?_
            refine Agg.chEnd ?_
            intro vs w94 hb hf
            simp only [List.reverse, List.reverseAux, Agg.Facts] at hf
            obtain _ := hf
            simp only [List.reverse, List.reverseAux, Agg.fill, List.set_cons_succ, List.set_cons_zero]
            have hbe := HB.out.trans (hb.mono HB.out.size)
            go_wp2_with fail
            go_ret
            exact ⟨rfl, hbe⟩
      · obtain ⟨rfl, rfl⟩ := HIN.out trivial hs
        have k0 : (s != 0) = true := by simp only [bne_iff_ne, ne_eq]; omega
        have k1 : (s != 1) = true := by simp only [bne_iff_ne, ne_eq]; omega
        clear hs
        go_upto_region 12 with (fail)
        refine Agg.listR 6 (by kernel_rfl) ?_
        simp only [List.take_succ_cons, List.take_zero, List.drop_succ_cons, List.drop_zero]
        refine Agg.chMove rfl rfl rfl rfl ?_
        refine Agg.chNe true k0 rfl rfl rfl rfl rfl ?_
        refine Agg.chMove rfl rfl rfl rfl ?_
        refine Agg.chMove rfl rfl rfl rfl ?_
        refine Agg.chNe true k1 rfl rfl rfl rfl rfl ?_
        refine Agg.chPick rfl rfl rfl rfl rfl ?_
        refine Agg.chEnd ?_
        intro vs w95 hb _
        show Exit.then _ _ Exit.normal _ _
        simp only [List.reverse, List.reverseAux, Agg.fill, List.set_cons_succ, List.set_cons_zero]
        replace HB := Lib.hid (HB.out.trans (hb.mono HB.out.size))
        replace HU := Lib.hid (HU.out.keep hb)
        replace H5 := Lib.hid (H5.out.keep hb)
        replace HVa := Lib.hid (HVa.out.keep hb)
        replace H6 := Lib.hid (H6.out.keep hb)
        clear hb
        go_upto_region 13 with (fail)
        refine Agg.listR 7 (by kernel_rfl) ?_
        simp only [List.take_succ_cons, List.take_zero, List.drop_succ_cons, List.drop_zero]
        refine Agg.chMove rfl rfl rfl rfl ?_
        refine Agg.chEq true (by decide) rfl rfl rfl rfl rfl ?_
        refine Agg.chMove rfl rfl rfl rfl ?_
        refine Agg.chRowB 4 H6.out rfl (by decide +kernel) rfl rfl rfl rfl ?_
        refine Agg.chBuild (v := .agg #[.int .i64 0, .int .u64 0, .slice none 0 0, .int .i64 0]) rfl rfl rfl rfl (fun W => by kernel_rfl) ?_
        refine Agg.chCall Try.func22 rfl (by kernel_rfl) rfl rfl rfl rfl (fun W hb => dSame_any rt0 rt0 _ _ W (RtR.keep HVa.out hb) (rt0_o 0 W).read true (by decide)) ?_
        refine Agg.chPick rfl rfl rfl rfl rfl ?_
        refine Agg.chEnd ?_
        intro vs w96 hb hf
        simp only [List.reverse, List.reverseAux, Agg.Facts] at hf
        obtain _ := hf
        simp only [List.reverse, List.reverseAux, Agg.fill, List.set_cons_succ, List.set_cons_zero]
        have hbe := HB.out.trans (hb.mono HB.out.size)
        go_wp2_with fail
        go_ret
        exact ⟨rfl, hbe⟩
end Go.Proofs.Ytjnnnnolikbjcaa
