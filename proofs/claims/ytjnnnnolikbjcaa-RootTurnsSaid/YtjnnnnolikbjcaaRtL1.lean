/-
  THE WALK OF LAYER 23's STATEMENT RootHolds.
-/
import Derived.Test.YtjnnnnolikbjcaaRtM
namespace Go.Proofs.Ytjnnnnolikbjcaa
open Go.ChangeShapes Go.WideShapes Go.ChangeAt Go.RowKit Agg Pg Dv
attribute [local go_sem] Oper.semAt_some

theorem why_cases (d : Dev) : whyD d = 260 ∨ whyD d = 10 ∨ whyD d = 0 := by
  unfold whyD; split
  · exact .inl rfl
  · split
    · exact .inr (.inl rfl)
    · exact .inr (.inr rfl)
/-- how what holds and what stands hang together -/
structure HoldF (r a b : Rt) (e f g : Int) : Prop where
  two : (e ≠ 0 ∧ f = e ∧ g = e ∧ r = rt0) ∨ (e = 0 ∧ rightB r = true ∧ ((r.slot = 0 ∧ f = 0 ∧ r = a ∧ (g = 0 → b.stamp ≤ r.stamp)) ∨ (r.slot = 1 ∧ g = 0 ∧ r = b ∧ (f = 0 → a.stamp ≤ r.stamp))))
theorem inS_zero (d : Dev) : inS d 0 = ((inR d 0).getD rt0, if (inR d 0).isSome then 0 else 331) := by unfold inS; rw [if_pos (.inl rfl)]
theorem inS_one (d : Dev) : inS d 1 = ((inR d 1).getD rt0, if (inR d 1).isSome then 0 else 331) := by unfold inS; rw [if_pos (.inr rfl)]
theorem inR_right {d : Dev} (hg : DGood d) {s : Int} {r : Rt} (h : inR d s = some r) : RightR r ∧ r.slot = s := ⟨(inB_some (saysP_bok hg.pages hg.cache s) h).1, (inB_some (saysP_bok hg.pages hg.cache s) h).2.1⟩
theorem hold_facts {d : Dev} (hg : DGood d) {r a b : Rt} {e f g : Int} (h1 : (if whyD d ≠ 0 then rt0 else (findR d).getD rt0) = r) (h2 : (if whyD d ≠ 0 then whyD d else if (findR d).isSome then (0 : Int) else 331) = e)
    (h3 : (if whyD d ≠ 0 then rt0 else (inS d 0).1) = a) (h4 : (if whyD d ≠ 0 then whyD d else (inS d 0).2) = f) (h5 : (if whyD d ≠ 0 then rt0 else (inS d 1).1) = b) (h6 : (if whyD d ≠ 0 then whyD d else (inS d 1).2) = g) : HoldF r a b e f g := by
  by_cases hw : whyD d ≠ 0
  · rw [if_pos hw] at h1 h2 h4 h6
    exact ⟨.inl ⟨by omega, by omega, by omega, h1.symm⟩⟩
  · rw [if_neg hw] at h1 h2 h3 h4 h5 h6
    rw [inS_zero] at h3 h4
    rw [inS_one] at h5 h6
    dsimp only at h3 h4 h5 h6
    unfold findR at h1 h2
    cases ha : inR d 0 with
    | none =>
      rw [ha] at h1 h2 h3 h4
      cases hb : inR d 1 with
      | none =>
        rw [hb] at h1 h2 h6
        have e2 : (331 : Int) = e := h2
        have e4 : (331 : Int) = f := h4
        have e6 : (331 : Int) = g := h6
        exact ⟨.inl ⟨by omega, by omega, by omega, h1.symm⟩⟩
      | some x =>
        rw [hb] at h1 h2 h5 h6
        have e1 : x = r := h1
        have e2 : (0 : Int) = e := h2
        have e5 : x = b := h5
        have e6 : (0 : Int) = g := h6
        have e4 : (331 : Int) = f := h4
        obtain ⟨q1, q2⟩ := inR_right hg hb
        exact ⟨.inr ⟨e2.symm, (right_iff _).2 (e1 ▸ q1), .inr ⟨e1 ▸ q2, e6.symm, e1.symm.trans e5, fun h => by omega⟩⟩⟩
    | some y =>
      rw [ha] at h1 h2 h3 h4
      have e3 : y = a := h3
      have e4 : (0 : Int) = f := h4
      obtain ⟨p1, p2⟩ := inR_right hg ha
      cases hb : inR d 1 with
      | none =>
        rw [hb] at h1 h2 h5 h6
        have e1 : y = r := h1
        have e2 : (0 : Int) = e := h2
        have e6 : (331 : Int) = g := h6
        exact ⟨.inr ⟨e2.symm, (right_iff _).2 (e1 ▸ p1), .inl ⟨e1 ▸ p2, e4.symm, e1.symm.trans e3, fun h => by omega⟩⟩⟩
      | some x =>
        rw [hb] at h1 h2 h5 h6
        have e5 : x = b := h5
        have e6 : (0 : Int) = g := h6
        obtain ⟨q1, q2⟩ := inR_right hg hb
        rw [bestR_two] at h1 h2
        by_cases hlt : y.stamp < x.stamp
        · rw [if_pos hlt] at h1 h2
          have e1 : x = r := h1
          have e2 : (0 : Int) = e := h2
          refine ⟨.inr ⟨e2.symm, (right_iff _).2 (e1 ▸ q1), .inr ⟨e1 ▸ q2, e6.symm, e1.symm.trans e5, fun _ => ?_⟩⟩⟩
          rw [← e3, ← e1]; omega
        · rw [if_neg hlt] at h1 h2
          have e1 : y = r := h1
          have e2 : (0 : Int) = e := h2
          refine ⟨.inr ⟨e2.symm, (right_iff _).2 (e1 ▸ p1), .inl ⟨e1 ▸ p2, e4.symm, e1.symm.trans e3, fun _ => ?_⟩⟩⟩
          rw [← e5, ← e1]; omega

set_option maxHeartbeats 8000000 in
set_option maxRecDepth 100000 in
theorem RootHolds_walk (c0 : Array Value) (f0 : Nat) (w : World) (g0 : Agg.Good Try.prog w f0 30 c0.toList) :
    Calls Try.prog 8 #[.agg c0] w fun e w' => e = .returned (.bool true) ∧ Below w.heap.size w w' := by
  obtain ⟨d0, hD0, hW, hf1, hf2⟩ := good_dev g0
  obtain ⟨qx, qpc, qy, qcy, hcc⟩ := hD0.shape
  have hG := ownD_good hW
  have hL := ownD_len d0
  have HOW := Lib.hid (fun W v h => lown_any d0 v W hW hf1 hf2 h)
  obtain ⟨d, hdd⟩ : ∃ d, ownD d0 = d := ⟨_, rfl⟩
  rw [hdd] at hG hL HOW
  obtain ⟨r, hr⟩ : ∃ x, (if whyD d ≠ 0 then rt0 else (findR d).getD rt0) = x := ⟨_, rfl⟩
  obtain ⟨e, he⟩ : ∃ x : Int, (if whyD d ≠ 0 then whyD d else if (findR d).isSome then (0 : Int) else 331) = x := ⟨_, rfl⟩
  obtain ⟨a, ha⟩ : ∃ x, (if whyD d ≠ 0 then rt0 else (inS d 0).1) = x := ⟨_, rfl⟩
  obtain ⟨f, hf⟩ : ∃ x : Int, (if whyD d ≠ 0 then whyD d else (inS d 0).2) = x := ⟨_, rfl⟩
  obtain ⟨b, hb⟩ : ∃ x, (if whyD d ≠ 0 then rt0 else (inS d 1).1) = x := ⟨_, rfl⟩
  obtain ⟨g, hg⟩ : ∃ x : Int, (if whyD d ≠ 0 then whyD d else (inS d 1).2) = x := ⟨_, rfl⟩
  have HF := Lib.hid (fun W v h => find_any d v W hG (by omega) h r e hr he)
  have HA := Lib.hid (fun W v h => inX_any d 0 v W hG (by omega) h (by decide) (by decide) a f ha hf)
  have HBI := Lib.hid (fun W v h => inX_any d 1 v W hG (by omega) h (by decide) (by decide) b g hb hg)
  have HH := Lib.hid (hold_facts hG hr he ha hf hb hg)
  have HD0 := Lib.hid hD0
  rw [hcc] at HD0 ⊢
  clear hr he ha hf hb hg hdd g0 hD0 hW hf1 hf2 hcc hG hL
  have HB := Lib.hid (Below.refl w.heap.size w)
  go_enter Try.func8, Try.ntmps8
  go_upto_region 1 with (fail)
  refine Agg.wp_at fun w1 hw1 => ?_
  have hb : Below w.heap.size w w1 := by rw [hw1.out]; repeat (first | exact Below.refl _ _ | refine Agg.bel_drew ?_ | refine Agg.bel_alloc ?_ _)
  replace HB := Lib.hid (HB.out.trans (hb.mono HB.out.size))
  replace HD0 := Lib.hid (HD0.out.keep hb)
  clear hb
  have H1 : Hid (Blk w1 w.heap.size 30 [.slice qx d0.pages.length qpc, .slice qy d0.cache.length qcy, .int .i64 d0.fuse, .bool d0.off]) := by show Blk _ _ _ _; rw [hw1.out]; exact Blk.new w 30 #[.slice qx d0.pages.length qpc, .slice qy d0.cache.length qcy, .int .i64 d0.fuse, .bool d0.off]
  clear hw1
  go_wp2_with fail
  refine (wakes_any w1).mono ?_
  rintro e w2 ⟨rfl, hb⟩
  replace HB := Lib.hid (HB.out.trans (hb.mono HB.out.size))
  replace HD0 := Lib.hid (HD0.out.keep hb)
  replace H1 := Lib.hid (H1.out.keep hb)
  clear hb
  have h1 := H1.out
  go_wp2_with (refine Agg.gLoadB 4 h1 rfl rfl rfl rfl (by decide +kernel) ?_; simp only [Act.put, List.setIfInBounds_toArray, List.set_cons_succ, List.set_cons_zero])
  clear h1
  refine (HOW.out w2 _ HD0.out).mono ?_
  rintro e w3 ⟨u, rfl, hu, hb⟩
  replace HB := Lib.hid (HB.out.trans (hb.mono HB.out.size))
  replace HD0 := Lib.hid (HD0.out.keep hb)
  replace H1 := Lib.hid (H1.out.keep hb)
  clear hb
  have HU := Lib.hid hu.read
  obtain ⟨px, pc, cx, cc, rfl⟩ := DevR.shape HU.out
  clear hu HOW
  go_upto_region 4 with (first
    | (refine Agg.allocRow 30 #[.slice none 0 0, .slice none 0 0, .int .i64 0, .bool false] rfl rfl (by kernel_rfl) ?_; simp only [Act.put, List.setIfInBounds_toArray, List.set_cons_succ, List.set_cons_zero])
    | (refine Agg.gStoreNew 4 [.slice px d.pages.length pc, .slice cx d.cache.length cc, .int .i64 d.fuse, .bool d.off] rfl rfl rfl rfl rfl rfl (by decide +kernel) rfl rfl (by simp [Value.oneCell']) ?_; simp only [Act.put]))
  refine Agg.wp_at fun w4 hw4 => ?_
  have hb : Below w3.heap.size w3 w4 := by rw [hw4.out]; repeat (first | exact Below.refl _ _ | refine Agg.bel_drew ?_ | refine Agg.bel_alloc ?_ _)
  replace HB := Lib.hid (HB.out.trans (hb.mono HB.out.size))
  replace HU := Lib.hid (HU.out.keep hb)
  clear hb
  have H3 : Hid (Blk w4 w3.heap.size 30 [.slice px d.pages.length pc, .slice cx d.cache.length cc, .int .i64 d.fuse, .bool d.off]) := by show Blk _ _ _ _; rw [hw4.out]; exact Blk.new w3 30 #[.slice px d.pages.length pc, .slice cx d.cache.length cc, .int .i64 d.fuse, .bool d.off]
  clear hw4
  generalize w3.heap.size = g3 at *
  have h3 := H3.out
  go_wp2_with (refine Agg.gLoadB 4 h3 rfl rfl rfl rfl (by decide +kernel) ?_; simp only [Act.put, List.setIfInBounds_toArray, List.set_cons_succ, List.set_cons_zero])
  clear h3
  refine (HF.out w4 _ HU.out).mono ?_
  rintro e w5 ⟨v, rfl, hv, hb⟩
  replace HB := Lib.hid (HB.out.trans (hb.mono HB.out.size))
  replace HU := Lib.hid (HU.out.keep hb)
  replace H3 := Lib.hid (H3.out.keep hb)
  clear hb
  have HVr := Lib.hid hv.read
  obtain ⟨slr, hvv, hvo⟩ := hv
  obtain ⟨x4, x4c, rfl, _, _⟩ := (ownSl hvo).shape
  unfold rtV at hvv
  subst hvv
  clear hvo HF
  go_upto_region 5 with (first
    | (refine Agg.allocRow 26 #[.int .i64 0, .int .u64 0, .slice none 0 0, .int .i64 0] rfl rfl (by kernel_rfl) ?_; simp only [Act.put, List.setIfInBounds_toArray, List.set_cons_succ, List.set_cons_zero])
    | (refine Agg.gStoreNew 4 [.int .i64 r.slot, .int .u64 (r.stamp : Int), .slice x4 r.pages.length x4c, .int .i64 r.bytes] rfl rfl rfl rfl rfl rfl (by decide +kernel) rfl rfl (by simp [Value.oneCell']) ?_; simp only [Act.put]))
  refine Agg.wp_at fun w6 hw6 => ?_
  have hb : Below w5.heap.size w5 w6 := by rw [hw6.out]; repeat (first | exact Below.refl _ _ | refine Agg.bel_drew ?_ | refine Agg.bel_alloc ?_ _)
  replace HB := Lib.hid (HB.out.trans (hb.mono HB.out.size))
  replace HU := Lib.hid (HU.out.keep hb)
  replace H3 := Lib.hid (H3.out.keep hb)
  replace HVr := Lib.hid (HVr.out.keep hb)
  clear hb
  have H4 : Hid (Blk w6 w5.heap.size 26 [.int .i64 r.slot, .int .u64 (r.stamp : Int), .slice x4 r.pages.length x4c, .int .i64 r.bytes]) := by show Blk _ _ _ _; rw [hw6.out]; exact Blk.new w5 26 #[.int .i64 r.slot, .int .u64 (r.stamp : Int), .slice x4 r.pages.length x4c, .int .i64 r.bytes]
  clear hw6
  generalize w5.heap.size = g4 at *
  have h3 := H3.out
  go_wp2_with (refine Agg.gLoadB 4 h3 rfl rfl rfl rfl (by decide +kernel) ?_; simp only [Act.put, List.setIfInBounds_toArray, List.set_cons_succ, List.set_cons_zero])
  clear h3
  refine (HA.out w6 _ HU.out).mono ?_
  rintro e w7 ⟨v, rfl, hv, hb⟩
  replace HB := Lib.hid (HB.out.trans (hb.mono HB.out.size))
  replace HU := Lib.hid (HU.out.keep hb)
  replace H3 := Lib.hid (H3.out.keep hb)
  replace HVr := Lib.hid (HVr.out.keep hb)
  replace H4 := Lib.hid (H4.out.keep hb)
  clear hb
  have HVa := Lib.hid hv.read
  obtain ⟨sla, hvv, hvo⟩ := hv
  obtain ⟨x6, x6c, rfl, _, _⟩ := (ownSl hvo).shape
  unfold rtV at hvv
  subst hvv
  clear hvo HA
  go_upto_region 6 with (first
    | (refine Agg.allocRow 26 #[.int .i64 0, .int .u64 0, .slice none 0 0, .int .i64 0] rfl rfl (by kernel_rfl) ?_; simp only [Act.put, List.setIfInBounds_toArray, List.set_cons_succ, List.set_cons_zero])
    | (refine Agg.gStoreNew 4 [.int .i64 a.slot, .int .u64 (a.stamp : Int), .slice x6 a.pages.length x6c, .int .i64 a.bytes] rfl rfl rfl rfl rfl rfl (by decide +kernel) rfl rfl (by simp [Value.oneCell']) ?_; simp only [Act.put]))
  refine Agg.wp_at fun w8 hw8 => ?_
  have hb : Below w7.heap.size w7 w8 := by rw [hw8.out]; repeat (first | exact Below.refl _ _ | refine Agg.bel_drew ?_ | refine Agg.bel_alloc ?_ _)
  replace HB := Lib.hid (HB.out.trans (hb.mono HB.out.size))
  replace HU := Lib.hid (HU.out.keep hb)
  replace H3 := Lib.hid (H3.out.keep hb)
  replace HVr := Lib.hid (HVr.out.keep hb)
  replace H4 := Lib.hid (H4.out.keep hb)
  replace HVa := Lib.hid (HVa.out.keep hb)
  clear hb
  have H6 : Hid (Blk w8 w7.heap.size 26 [.int .i64 a.slot, .int .u64 (a.stamp : Int), .slice x6 a.pages.length x6c, .int .i64 a.bytes]) := by show Blk _ _ _ _; rw [hw8.out]; exact Blk.new w7 26 #[.int .i64 a.slot, .int .u64 (a.stamp : Int), .slice x6 a.pages.length x6c, .int .i64 a.bytes]
  clear hw8
  generalize w7.heap.size = g6 at *
  have h3 := H3.out
  go_wp2_with (refine Agg.gLoadB 4 h3 rfl rfl rfl rfl (by decide +kernel) ?_; simp only [Act.put, List.setIfInBounds_toArray, List.set_cons_succ, List.set_cons_zero])
  clear h3
  refine (HBI.out w8 _ HU.out).mono ?_
  rintro e w9 ⟨v, rfl, hv, hb⟩
  replace HB := Lib.hid (HB.out.trans (hb.mono HB.out.size))
  replace HU := Lib.hid (HU.out.keep hb)
  replace H3 := Lib.hid (H3.out.keep hb)
  replace HVr := Lib.hid (HVr.out.keep hb)
  replace H4 := Lib.hid (H4.out.keep hb)
  replace HVa := Lib.hid (HVa.out.keep hb)
  replace H6 := Lib.hid (H6.out.keep hb)
  clear hb
  have HVb := Lib.hid hv.read
  obtain ⟨slb, hvv, hvo⟩ := hv
  obtain ⟨x8, x8c, rfl, _, _⟩ := (ownSl hvo).shape
  unfold rtV at hvv
  subst hvv
  clear hvo HBI
  go_upto_region 7 with (first
    | (refine Agg.allocRow 26 #[.int .i64 0, .int .u64 0, .slice none 0 0, .int .i64 0] rfl rfl (by kernel_rfl) ?_; simp only [Act.put, List.setIfInBounds_toArray, List.set_cons_succ, List.set_cons_zero])
    | (refine Agg.gStoreNew 4 [.int .i64 b.slot, .int .u64 (b.stamp : Int), .slice x8 b.pages.length x8c, .int .i64 b.bytes] rfl rfl rfl rfl rfl rfl (by decide +kernel) rfl rfl (by simp [Value.oneCell']) ?_; simp only [Act.put]))
  refine Agg.wp_at fun w10 hw10 => ?_
  have hb : Below w9.heap.size w9 w10 := by rw [hw10.out]; repeat (first | exact Below.refl _ _ | refine Agg.bel_drew ?_ | refine Agg.bel_alloc ?_ _)
  replace HB := Lib.hid (HB.out.trans (hb.mono HB.out.size))
  replace HU := Lib.hid (HU.out.keep hb)
  replace H3 := Lib.hid (H3.out.keep hb)
  replace HVr := Lib.hid (HVr.out.keep hb)
  replace H4 := Lib.hid (H4.out.keep hb)
  replace HVa := Lib.hid (HVa.out.keep hb)
  replace H6 := Lib.hid (H6.out.keep hb)
  replace HVb := Lib.hid (HVb.out.keep hb)
  clear hb
  have H8 : Hid (Blk w10 w9.heap.size 26 [.int .i64 b.slot, .int .u64 (b.stamp : Int), .slice x8 b.pages.length x8c, .int .i64 b.bytes]) := by show Blk _ _ _ _; rw [hw10.out]; exact Blk.new w9 26 #[.int .i64 b.slot, .int .u64 (b.stamp : Int), .slice x8 b.pages.length x8c, .int .i64 b.bytes]
  clear hw10
  generalize w9.heap.size = g8 at *
  clear HU H3
  rcases HH.out.two with ⟨he, rfl, rfl, rfl⟩ | ⟨rfl, hrb, hcase⟩
  · have hgg : (g == g) = true := by simp
    have hg0 : (g != 0) = true := by simp [he]
    clear he
    go_upto_region 8 with (fail)
    refine Agg.listR 14 (by kernel_rfl) ?_
    simp only [List.take_succ_cons, List.take_zero, List.drop_succ_cons, List.drop_zero]
    refine Agg.chMove rfl rfl rfl rfl ?_
    refine Agg.chMove rfl rfl rfl rfl ?_
    refine Agg.chEq true hgg rfl rfl rfl rfl rfl ?_
    refine Agg.chMove rfl rfl rfl rfl ?_
    refine Agg.chMove rfl rfl rfl rfl ?_
    refine Agg.chMove rfl rfl rfl rfl ?_
    refine Agg.chEq true hgg rfl rfl rfl rfl rfl ?_
    refine Agg.chPick rfl rfl rfl rfl rfl ?_
    refine Agg.chMove rfl rfl rfl rfl ?_
    refine Agg.chRowB 4 H4.out rfl (by decide +kernel) rfl rfl rfl rfl ?_
    refine Agg.chBuild (v := .agg #[.int .i64 0, .int .u64 0, .slice none 0 0, .int .i64 0]) rfl rfl rfl rfl (fun W => by kernel_rfl) ?_
    refine Agg.chCall Try.func18 rfl (by kernel_rfl) rfl rfl rfl rfl (fun W hb => sameR_any rt0 rt0 _ _ W (RtR.keep HVr.out hb) (rt0_o 0 W).read true (by decide)) ?_
    refine Agg.chPick rfl rfl rfl rfl rfl ?_
    refine Agg.chAssign rfl rfl rfl rfl ?_
    refine Agg.chEnd ?_
    intro vs w11 hb _
    show Exit.then _ _ Exit.normal _ _
    simp only [List.reverse, List.reverseAux, Agg.fill, List.set_cons_succ, List.set_cons_zero]
    replace HB := Lib.hid (HB.out.trans (hb.mono HB.out.size))
    replace HVr := Lib.hid (HVr.out.keep hb)
    replace H4 := Lib.hid (H4.out.keep hb)
    replace HVa := Lib.hid (HVa.out.keep hb)
    replace H6 := Lib.hid (H6.out.keep hb)
    replace HVb := Lib.hid (HVb.out.keep hb)
    replace H8 := Lib.hid (H8.out.keep hb)
    clear hb
    go_wp2_with fail
    go_ret
    exact ⟨rfl, HB.out⟩
  · have HRB := Lib.hid hrb
    have HRW := Lib.hid (rtw_of ((right_iff r).1 hrb))
    clear hrb
    go_upto_region 9 with (fail)
    rcases hcase with ⟨hs, rfl, rfl, hle⟩ | ⟨hs, rfl, rfl, hle⟩
    · have hs0 : (r.slot == 0) = true := by rw [hs]; rfl
      have hf0 : ((0 : Int) == 0) = true := rfl
      have dfa : decide ((r.stamp : Int) > (r.stamp : Int)) = false := by simp
      clear hs
      by_cases hg : g = 0
      · have hg0 : (g == 0) = true := by rw [hg]; rfl
        have dgb : decide ((b.stamp : Int) > (r.stamp : Int)) = false := by have := hle hg; simp; omega
        clear hg hle
        refine Agg.listR 20 (by kernel_rfl) ?_
        simp only [List.take_succ_cons, List.take_zero, List.drop_succ_cons, List.drop_zero]
        refine Agg.chMove rfl rfl rfl rfl ?_
        refine Agg.chEq true hf0 rfl rfl rfl rfl rfl ?_
        refine Agg.chMove rfl rfl rfl rfl ?_
        refine Agg.chFA fo_Rt_1 rfl rfl rfl rfl ?_
        refine Agg.chLoadB H6.out (by decide +kernel) rfl rfl (by rfl) rfl rfl ?_
        refine Agg.chFA fo_Rt_1 rfl rfl rfl rfl ?_
        refine Agg.chLoadB H4.out (by decide +kernel) rfl rfl (by rfl) rfl rfl ?_
        refine Agg.chGt false dfa rfl rfl rfl rfl rfl ?_
        refine Agg.chPick rfl rfl rfl rfl rfl ?_
        refine Agg.chMove rfl rfl rfl rfl ?_
        refine Agg.chMove rfl rfl rfl rfl ?_
        refine Agg.chEq true hg0 rfl rfl rfl rfl rfl ?_
        refine Agg.chMove rfl rfl rfl rfl ?_
        refine Agg.chFA fo_Rt_1 rfl rfl rfl rfl ?_
        refine Agg.chLoadB H8.out (by decide +kernel) rfl rfl (by rfl) rfl rfl ?_
        refine Agg.chFA fo_Rt_1 rfl rfl rfl rfl ?_
        refine Agg.chLoadB H4.out (by decide +kernel) rfl rfl (by rfl) rfl rfl ?_
        refine Agg.chGt false dgb rfl rfl rfl rfl rfl ?_
        refine Agg.chPick rfl rfl rfl rfl rfl ?_
        refine Agg.chPick rfl rfl rfl rfl rfl ?_
        refine Agg.chEnd ?_
        intro vs w12 hb _
        show Exit.then _ _ Exit.normal _ _
        simp only [List.reverse, List.reverseAux, Agg.fill, List.set_cons_succ, List.set_cons_zero]
        replace HB := Lib.hid (HB.out.trans (hb.mono HB.out.size))
        replace HVr := Lib.hid (HVr.out.keep hb)
        replace H4 := Lib.hid (H4.out.keep hb)
        replace HVa := Lib.hid (HVa.out.keep hb)
        replace H6 := Lib.hid (H6.out.keep hb)
        replace HVb := Lib.hid (HVb.out.keep hb)
        replace H8 := Lib.hid (H8.out.keep hb)
        clear hb
        go_upto_region 11 with (fail)
        refine Agg.listR 32 (by kernel_rfl) ?_
        simp only [List.take_succ_cons, List.take_zero, List.drop_succ_cons, List.drop_zero]
        refine Agg.chRowB 4 H4.out rfl (by decide +kernel) rfl rfl rfl rfl ?_
        refine Agg.chCall Try.func15 rfl (by kernel_rfl) (v := .int .i64 0) rfl rfl rfl rfl (fun W hb => by have h := rtCheck_any r _ W (RtR.keep HVr.out hb) HRW.out; rw [HRB.out] at h; exact h) ?_
        refine Agg.chEq true (by decide) rfl rfl rfl rfl rfl ?_
        refine Agg.chMove rfl rfl rfl rfl ?_
        refine Agg.chFA fo_Rt_0 rfl rfl rfl rfl ?_
        refine Agg.chLoadB H4.out (by decide +kernel) rfl rfl (by rfl) rfl rfl ?_
        refine Agg.chEq true hs0 rfl rfl rfl rfl rfl ?_
        refine Agg.chMove rfl rfl rfl rfl ?_
        refine Agg.chMove rfl rfl rfl rfl ?_
        refine Agg.chEq true hf0 rfl rfl rfl rfl rfl ?_
        refine Agg.chPick rfl rfl rfl rfl rfl ?_
        refine Agg.chMove rfl rfl rfl rfl ?_
        refine Agg.chRowB 4 H4.out rfl (by decide +kernel) rfl rfl rfl rfl ?_
        refine Agg.chRowB 4 H6.out rfl (by decide +kernel) rfl rfl rfl rfl ?_
        refine Agg.chCall Try.func18 rfl (by kernel_rfl) rfl rfl rfl rfl (fun W hb => sameR_any r r _ _ W (RtR.keep HVr.out hb) (RtR.keep HVa.out hb) true (by simp)) ?_
        refine Agg.chPick rfl rfl rfl rfl rfl ?_
        refine Agg.chMove rfl rfl rfl rfl ?_
        refine Agg.chSkip rfl rfl ?_
        refine Agg.chSkip rfl rfl ?_
        refine Agg.chSkip rfl rfl ?_
        refine Agg.chSkip rfl rfl ?_
        refine Agg.chSkip rfl rfl ?_
        refine Agg.chSkip rfl rfl ?_
        refine Agg.chSkip rfl rfl ?_
        refine Agg.chSkip rfl rfl ?_
        refine Agg.chSkip rfl rfl ?_
        refine Agg.chSkip rfl rfl ?_
        refine Agg.chSkip rfl rfl ?_
        refine Agg.chSkip rfl rfl ?_
        refine Agg.chPick rfl rfl rfl rfl rfl ?_
        refine Agg.chPick rfl rfl rfl rfl rfl ?_
        refine Agg.chAssign rfl rfl rfl rfl ?_
        refine Agg.chEnd ?_
        intro vs w13 hb _
        show Exit.then _ _ Exit.normal _ _
        simp only [List.reverse, List.reverseAux, Agg.fill, List.set_cons_succ, List.set_cons_zero]
        replace HB := Lib.hid (HB.out.trans (hb.mono HB.out.size))
        replace HVr := Lib.hid (HVr.out.keep hb)
        replace H4 := Lib.hid (H4.out.keep hb)
        replace HVa := Lib.hid (HVa.out.keep hb)
        replace H6 := Lib.hid (H6.out.keep hb)
        replace HVb := Lib.hid (HVb.out.keep hb)
        replace H8 := Lib.hid (H8.out.keep hb)
        clear hb
        go_wp2_with fail
        go_ret
        exact ⟨rfl, HB.out⟩
      · have hg0 : (g == 0) = false := by simp [hg]
        clear hg hle
        refine Agg.listR 20 (by kernel_rfl) ?_
        simp only [List.take_succ_cons, List.take_zero, List.drop_succ_cons, List.drop_zero]
        refine Agg.chMove rfl rfl rfl rfl ?_
        refine Agg.chEq true hf0 rfl rfl rfl rfl rfl ?_
        refine Agg.chMove rfl rfl rfl rfl ?_
        refine Agg.chFA fo_Rt_1 rfl rfl rfl rfl ?_
        refine Agg.chLoadB H6.out (by decide +kernel) rfl rfl (by rfl) rfl rfl ?_
        refine Agg.chFA fo_Rt_1 rfl rfl rfl rfl ?_
        refine Agg.chLoadB H4.out (by decide +kernel) rfl rfl (by rfl) rfl rfl ?_
        refine Agg.chGt false dfa rfl rfl rfl rfl rfl ?_
        refine Agg.chPick rfl rfl rfl rfl rfl ?_
        refine Agg.chMove rfl rfl rfl rfl ?_
        refine Agg.chMove rfl rfl rfl rfl ?_
        refine Agg.chEq false hg0 rfl rfl rfl rfl rfl ?_
        refine Agg.chMove rfl rfl rfl rfl ?_
        refine Agg.chSkip rfl rfl ?_
        refine Agg.chSkip rfl rfl ?_
        refine Agg.chSkip rfl rfl ?_
        refine Agg.chSkip rfl rfl ?_
        refine Agg.chSkip rfl rfl ?_
        refine Agg.chPick rfl rfl rfl rfl rfl ?_
        refine Agg.chPick rfl rfl rfl rfl rfl ?_
        refine Agg.chEnd ?_
        intro vs w14 hb _
        show Exit.then _ _ Exit.normal _ _
        simp only [List.reverse, List.reverseAux, Agg.fill, List.set_cons_succ, List.set_cons_zero]
        replace HB := Lib.hid (HB.out.trans (hb.mono HB.out.size))
        replace HVr := Lib.hid (HVr.out.keep hb)
        replace H4 := Lib.hid (H4.out.keep hb)
        replace HVa := Lib.hid (HVa.out.keep hb)
        replace H6 := Lib.hid (H6.out.keep hb)
        replace HVb := Lib.hid (HVb.out.keep hb)
        replace H8 := Lib.hid (H8.out.keep hb)
        clear hb
        go_upto_region 11 with (fail)
        refine Agg.listR 32 (by kernel_rfl) ?_
        simp only [List.take_succ_cons, List.take_zero, List.drop_succ_cons, List.drop_zero]
        refine Agg.chRowB 4 H4.out rfl (by decide +kernel) rfl rfl rfl rfl ?_
        refine Agg.chCall Try.func15 rfl (by kernel_rfl) (v := .int .i64 0) rfl rfl rfl rfl (fun W hb => by have h := rtCheck_any r _ W (RtR.keep HVr.out hb) HRW.out; rw [HRB.out] at h; exact h) ?_
        refine Agg.chEq true (by decide) rfl rfl rfl rfl rfl ?_
        refine Agg.chMove rfl rfl rfl rfl ?_
        refine Agg.chFA fo_Rt_0 rfl rfl rfl rfl ?_
        refine Agg.chLoadB H4.out (by decide +kernel) rfl rfl (by rfl) rfl rfl ?_
        refine Agg.chEq true hs0 rfl rfl rfl rfl rfl ?_
        refine Agg.chMove rfl rfl rfl rfl ?_
        refine Agg.chMove rfl rfl rfl rfl ?_
        refine Agg.chEq true hf0 rfl rfl rfl rfl rfl ?_
        refine Agg.chPick rfl rfl rfl rfl rfl ?_
        refine Agg.chMove rfl rfl rfl rfl ?_
        refine Agg.chRowB 4 H4.out rfl (by decide +kernel) rfl rfl rfl rfl ?_
        refine Agg.chRowB 4 H6.out rfl (by decide +kernel) rfl rfl rfl rfl ?_
        refine Agg.chCall Try.func18 rfl (by kernel_rfl) rfl rfl rfl rfl (fun W hb => sameR_any r r _ _ W (RtR.keep HVr.out hb) (RtR.keep HVa.out hb) true (by simp)) ?_
        refine Agg.chPick rfl rfl rfl rfl rfl ?_
        refine Agg.chMove rfl rfl rfl rfl ?_
        refine Agg.chSkip rfl rfl ?_
        refine Agg.chSkip rfl rfl ?_
        refine Agg.chSkip rfl rfl ?_
        refine Agg.chSkip rfl rfl ?_
        refine Agg.chSkip rfl rfl ?_
        refine Agg.chSkip rfl rfl ?_
        refine Agg.chSkip rfl rfl ?_
        refine Agg.chSkip rfl rfl ?_
        refine Agg.chSkip rfl rfl ?_
        refine Agg.chSkip rfl rfl ?_
        refine Agg.chSkip rfl rfl ?_
        refine Agg.chSkip rfl rfl ?_
        refine Agg.chPick rfl rfl rfl rfl rfl ?_
        refine Agg.chPick rfl rfl rfl rfl rfl ?_
        refine Agg.chAssign rfl rfl rfl rfl ?_
        refine Agg.chEnd ?_
        intro vs w15 hb _
        show Exit.then _ _ Exit.normal _ _
        simp only [List.reverse, List.reverseAux, Agg.fill, List.set_cons_succ, List.set_cons_zero]
        replace HB := Lib.hid (HB.out.trans (hb.mono HB.out.size))
        replace HVr := Lib.hid (HVr.out.keep hb)
        replace H4 := Lib.hid (H4.out.keep hb)
        replace HVa := Lib.hid (HVa.out.keep hb)
        replace H6 := Lib.hid (H6.out.keep hb)
        replace HVb := Lib.hid (HVb.out.keep hb)
        replace H8 := Lib.hid (H8.out.keep hb)
        clear hb
        go_wp2_with fail
        go_ret
        exact ⟨rfl, HB.out⟩
    · have hs0 : (r.slot == 0) = false := by rw [hs]; rfl
      have hs1 : (r.slot == 1) = true := by rw [hs]; rfl
      have hg0 : ((0 : Int) == 0) = true := rfl
      have dgb : decide ((r.stamp : Int) > (r.stamp : Int)) = false := by simp
      clear hs
      by_cases hf : f = 0
      · have hf0 : (f == 0) = true := by rw [hf]; rfl
        have dfa : decide ((a.stamp : Int) > (r.stamp : Int)) = false := by have := hle hf; simp; omega
        clear hf hle
        refine Agg.listR 20 (by kernel_rfl) ?_
        simp only [List.take_succ_cons, List.take_zero, List.drop_succ_cons, List.drop_zero]
        refine Agg.chMove rfl rfl rfl rfl ?_
        refine Agg.chEq true hf0 rfl rfl rfl rfl rfl ?_
        refine Agg.chMove rfl rfl rfl rfl ?_
        refine Agg.chFA fo_Rt_1 rfl rfl rfl rfl ?_
        refine Agg.chLoadB H6.out (by decide +kernel) rfl rfl (by rfl) rfl rfl ?_
        refine Agg.chFA fo_Rt_1 rfl rfl rfl rfl ?_
        refine Agg.chLoadB H4.out (by decide +kernel) rfl rfl (by rfl) rfl rfl ?_
        refine Agg.chGt false dfa rfl rfl rfl rfl rfl ?_
        refine Agg.chPick rfl rfl rfl rfl rfl ?_
        refine Agg.chMove rfl rfl rfl rfl ?_
        refine Agg.chMove rfl rfl rfl rfl ?_
        refine Agg.chEq true hg0 rfl rfl rfl rfl rfl ?_
        refine Agg.chMove rfl rfl rfl rfl ?_
        refine Agg.chFA fo_Rt_1 rfl rfl rfl rfl ?_
        refine Agg.chLoadB H8.out (by decide +kernel) rfl rfl (by rfl) rfl rfl ?_
        refine Agg.chFA fo_Rt_1 rfl rfl rfl rfl ?_
        refine Agg.chLoadB H4.out (by decide +kernel) rfl rfl (by rfl) rfl rfl ?_
        refine Agg.chGt false dgb rfl rfl rfl rfl rfl ?_
        refine Agg.chPick rfl rfl rfl rfl rfl ?_
        refine Agg.chPick rfl rfl rfl rfl rfl ?_
        refine Agg.chEnd ?_
        intro vs w16 hb _
        show Exit.then _ _ Exit.normal _ _
        simp only [List.reverse, List.reverseAux, Agg.fill, List.set_cons_succ, List.set_cons_zero]
        replace HB := Lib.hid (HB.out.trans (hb.mono HB.out.size))
        replace HVr := Lib.hid (HVr.out.keep hb)
        replace H4 := Lib.hid (H4.out.keep hb)
        replace HVa := Lib.hid (HVa.out.keep hb)
        replace H6 := Lib.hid (H6.out.keep hb)
        replace HVb := Lib.hid (HVb.out.keep hb)
        replace H8 := Lib.hid (H8.out.keep hb)
        clear hb
        go_upto_region 11 with (fail)
        refine Agg.listR 32 (by kernel_rfl) ?_
        simp only [List.take_succ_cons, List.take_zero, List.drop_succ_cons, List.drop_zero]
        refine Agg.chRowB 4 H4.out rfl (by decide +kernel) rfl rfl rfl rfl ?_
        refine Agg.chCall Try.func15 rfl (by kernel_rfl) (v := .int .i64 0) rfl rfl rfl rfl (fun W hb => by have h := rtCheck_any r _ W (RtR.keep HVr.out hb) HRW.out; rw [HRB.out] at h; exact h) ?_
        refine Agg.chEq true (by decide) rfl rfl rfl rfl rfl ?_
        refine Agg.chMove rfl rfl rfl rfl ?_
        refine Agg.chFA fo_Rt_0 rfl rfl rfl rfl ?_
        refine Agg.chLoadB H4.out (by decide +kernel) rfl rfl (by rfl) rfl rfl ?_
        refine Agg.chEq false hs0 rfl rfl rfl rfl rfl ?_
        refine Agg.chMove rfl rfl rfl rfl ?_
        refine Agg.chSkip rfl rfl ?_
        refine Agg.chSkip rfl rfl ?_
        refine Agg.chPick rfl rfl rfl rfl rfl ?_
        refine Agg.chMove rfl rfl rfl rfl ?_
        refine Agg.chSkip rfl rfl ?_
        refine Agg.chSkip rfl rfl ?_
        refine Agg.chSkip rfl rfl ?_
        refine Agg.chPick rfl rfl rfl rfl rfl ?_
        refine Agg.chMove rfl rfl rfl rfl ?_
        refine Agg.chFA fo_Rt_0 rfl rfl rfl rfl ?_
        refine Agg.chLoadB H4.out (by decide +kernel) rfl rfl (by rfl) rfl rfl ?_
        refine Agg.chEq true hs1 rfl rfl rfl rfl rfl ?_
        refine Agg.chMove rfl rfl rfl rfl ?_
        refine Agg.chMove rfl rfl rfl rfl ?_
        refine Agg.chEq true hg0 rfl rfl rfl rfl rfl ?_
        refine Agg.chPick rfl rfl rfl rfl rfl ?_
        refine Agg.chMove rfl rfl rfl rfl ?_
        refine Agg.chRowB 4 H4.out rfl (by decide +kernel) rfl rfl rfl rfl ?_
        refine Agg.chRowB 4 H8.out rfl (by decide +kernel) rfl rfl rfl rfl ?_
        refine Agg.chCall Try.func18 rfl (by kernel_rfl) rfl rfl rfl rfl (fun W hb => sameR_any r r _ _ W (RtR.keep HVr.out hb) (RtR.keep HVb.out hb) true (by simp)) ?_
        refine Agg.chPick rfl rfl rfl rfl rfl ?_
        refine Agg.chPick rfl rfl rfl rfl rfl ?_
        refine Agg.chPick rfl rfl rfl rfl rfl ?_
        refine Agg.chAssign rfl rfl rfl rfl ?_
        refine Agg.chEnd ?_
        intro vs w17 hb _
        show Exit.then _ _ Exit.normal _ _
        simp only [List.reverse, List.reverseAux, Agg.fill, List.set_cons_succ, List.set_cons_zero]
        replace HB := Lib.hid (HB.out.trans (hb.mono HB.out.size))
        replace HVr := Lib.hid (HVr.out.keep hb)
        replace H4 := Lib.hid (H4.out.keep hb)
        replace HVa := Lib.hid (HVa.out.keep hb)
        replace H6 := Lib.hid (H6.out.keep hb)
        replace HVb := Lib.hid (HVb.out.keep hb)
        replace H8 := Lib.hid (H8.out.keep hb)
        clear hb
        go_wp2_with fail
        go_ret
        exact ⟨rfl, HB.out⟩
      · have hf0 : (f == 0) = false := by simp [hf]
        clear hf hle
        refine Agg.listR 20 (by kernel_rfl) ?_
        simp only [List.take_succ_cons, List.take_zero, List.drop_succ_cons, List.drop_zero]
        refine Agg.chMove rfl rfl rfl rfl ?_
        refine Agg.chEq false hf0 rfl rfl rfl rfl rfl ?_
        refine Agg.chMove rfl rfl rfl rfl ?_
        refine Agg.chSkip rfl rfl ?_
        refine Agg.chSkip rfl rfl ?_
        refine Agg.chSkip rfl rfl ?_
        refine Agg.chSkip rfl rfl ?_
        refine Agg.chSkip rfl rfl ?_
        refine Agg.chPick rfl rfl rfl rfl rfl ?_
        refine Agg.chMove rfl rfl rfl rfl ?_
        refine Agg.chMove rfl rfl rfl rfl ?_
        refine Agg.chEq true hg0 rfl rfl rfl rfl rfl ?_
        refine Agg.chMove rfl rfl rfl rfl ?_
        refine Agg.chFA fo_Rt_1 rfl rfl rfl rfl ?_
        refine Agg.chLoadB H8.out (by decide +kernel) rfl rfl (by rfl) rfl rfl ?_
        refine Agg.chFA fo_Rt_1 rfl rfl rfl rfl ?_
        refine Agg.chLoadB H4.out (by decide +kernel) rfl rfl (by rfl) rfl rfl ?_
        refine Agg.chGt false dgb rfl rfl rfl rfl rfl ?_
        refine Agg.chPick rfl rfl rfl rfl rfl ?_
        refine Agg.chPick rfl rfl rfl rfl rfl ?_
        refine Agg.chEnd ?_
        intro vs w18 hb _
        show Exit.then _ _ Exit.normal _ _
        simp only [List.reverse, List.reverseAux, Agg.fill, List.set_cons_succ, List.set_cons_zero]
        replace HB := Lib.hid (HB.out.trans (hb.mono HB.out.size))
        replace HVr := Lib.hid (HVr.out.keep hb)
        replace H4 := Lib.hid (H4.out.keep hb)
        replace HVa := Lib.hid (HVa.out.keep hb)
        replace H6 := Lib.hid (H6.out.keep hb)
        replace HVb := Lib.hid (HVb.out.keep hb)
        replace H8 := Lib.hid (H8.out.keep hb)
        clear hb
        go_upto_region 11 with (fail)
        refine Agg.listR 32 (by kernel_rfl) ?_
        simp only [List.take_succ_cons, List.take_zero, List.drop_succ_cons, List.drop_zero]
        refine Agg.chRowB 4 H4.out rfl (by decide +kernel) rfl rfl rfl rfl ?_
        refine Agg.chCall Try.func15 rfl (by kernel_rfl) (v := .int .i64 0) rfl rfl rfl rfl (fun W hb => by have h := rtCheck_any r _ W (RtR.keep HVr.out hb) HRW.out; rw [HRB.out] at h; exact h) ?_
        refine Agg.chEq true (by decide) rfl rfl rfl rfl rfl ?_
        refine Agg.chMove rfl rfl rfl rfl ?_
        refine Agg.chFA fo_Rt_0 rfl rfl rfl rfl ?_
        refine Agg.chLoadB H4.out (by decide +kernel) rfl rfl (by rfl) rfl rfl ?_
        refine Agg.chEq false hs0 rfl rfl rfl rfl rfl ?_
        refine Agg.chMove rfl rfl rfl rfl ?_
        refine Agg.chSkip rfl rfl ?_
        refine Agg.chSkip rfl rfl ?_
        refine Agg.chPick rfl rfl rfl rfl rfl ?_
        refine Agg.chMove rfl rfl rfl rfl ?_
        refine Agg.chSkip rfl rfl ?_
        refine Agg.chSkip rfl rfl ?_
        refine Agg.chSkip rfl rfl ?_
        refine Agg.chPick rfl rfl rfl rfl rfl ?_
        refine Agg.chMove rfl rfl rfl rfl ?_
        refine Agg.chFA fo_Rt_0 rfl rfl rfl rfl ?_
        refine Agg.chLoadB H4.out (by decide +kernel) rfl rfl (by rfl) rfl rfl ?_
        refine Agg.chEq true hs1 rfl rfl rfl rfl rfl ?_
        refine Agg.chMove rfl rfl rfl rfl ?_
        refine Agg.chMove rfl rfl rfl rfl ?_
        refine Agg.chEq true hg0 rfl rfl rfl rfl rfl ?_
        refine Agg.chPick rfl rfl rfl rfl rfl ?_
        refine Agg.chMove rfl rfl rfl rfl ?_
        refine Agg.chRowB 4 H4.out rfl (by decide +kernel) rfl rfl rfl rfl ?_
        refine Agg.chRowB 4 H8.out rfl (by decide +kernel) rfl rfl rfl rfl ?_
        refine Agg.chCall Try.func18 rfl (by kernel_rfl) rfl rfl rfl rfl (fun W hb => sameR_any r r _ _ W (RtR.keep HVr.out hb) (RtR.keep HVb.out hb) true (by simp)) ?_
        refine Agg.chPick rfl rfl rfl rfl rfl ?_
        refine Agg.chPick rfl rfl rfl rfl rfl ?_
        refine Agg.chPick rfl rfl rfl rfl rfl ?_
        refine Agg.chAssign rfl rfl rfl rfl ?_
        refine Agg.chEnd ?_
        intro vs w19 hb _
        show Exit.then _ _ Exit.normal _ _
        simp only [List.reverse, List.reverseAux, Agg.fill, List.set_cons_succ, List.set_cons_zero]
        replace HB := Lib.hid (HB.out.trans (hb.mono HB.out.size))
        replace HVr := Lib.hid (HVr.out.keep hb)
        replace H4 := Lib.hid (H4.out.keep hb)
        replace HVa := Lib.hid (HVa.out.keep hb)
        replace H6 := Lib.hid (H6.out.keep hb)
        replace HVb := Lib.hid (HVb.out.keep hb)
        replace H8 := Lib.hid (H8.out.keep hb)
        clear hb
        go_wp2_with fail
        go_ret
        exact ⟨rfl, HB.out⟩
end Go.Proofs.Ytjnnnnolikbjcaa
