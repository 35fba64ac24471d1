/-
  ROOTS: the document's In and Find.
-/
import Derived.Test.YtjnnnnolikbjcaaRtA
section
namespace Go.Proofs.Ytjnnnnolikbjcaa
open Go.ChangeShapes Go.WideShapes Go.ChangeAt Go.RowKit Agg Pg Dv
attribute [local go_sem] Oper.semAt_some

set_option maxHeartbeats 8000000 in
set_option maxRecDepth 100000 in
theorem dIn_any (d : Dev) (slot : Int) (dv : Value) (w : World) (hg : DGood d) (hc : d.cache.length ≤ 1000000) (hd : DevR w dv d) (hl : 2 ≤ d.pages.length) (hs : slot = 0 ∨ slot = 1) (o : Option Rt) (hio : inR d slot = o) :
    Calls Try.prog 24 #[dv, .int .i64 slot] w fun e w' => ∃ v, e = .returned (.tuple #[v, .bool o.isSome]) ∧ RtO w.heap.size w' v (o.getD rt0) ∧ Below w.heap.size w w' := by
  obtain ⟨px, pc, cx, cc, rfl⟩ := hd.shape
  obtain ⟨ec, hec⟩ : ∃ e : Bool, o.isSome = e := ⟨_, rfl⟩
  rw [hec]
  have HEC := Lib.hid hec
  clear hec
  have HAT : Hid (∀ W, DevR W (.agg #[.slice px d.pages.length pc, .slice cx d.cache.length cc, .int .i64 d.fuse, .bool d.off]) d → Calls Try.prog 53 #[.agg #[.slice px d.pages.length pc, .slice cx d.cache.length cc, .int .i64 d.fuse, .bool d.off], .int .i64 slot] W fun e w' => e = .returned (.agg (blkC (saysP d.pages d.cache slot)).toArray) ∧ Below W.heap.size W w') := Lib.hid (fun W h => by
    obtain ⟨x, y, cap, cm, hv, h1, h2⟩ := h
    injection hv with hv
    have e1 := congrArg (fun a : Array Value => a[0]?) hv
    have e2 := congrArg (fun a : Array Value => a[1]?) hv
    simp only [List.getElem?_toArray, List.getElem?_cons_zero, List.getElem?_cons_succ, Option.some.injEq] at e1 e2
    rw [← e1] at h1
    rw [← e2] at h2
    rcases hs with rfl | rfl
    · exact rAt_any d.pages d.cache d.fuse d.off px cx pc cc 0 (by omega) W hc h1 h2 hg.pages hg.cache
    · exact rAt_any d.pages d.cache d.fuse d.off px cx pc cc 1 (by omega) W hc h1 h2 hg.pages hg.cache)
  have hbok := saysP_bok hg.pages hg.cache slot
  unfold inR at hio
  obtain ⟨bl, hbl⟩ : ∃ b, saysP d.pages d.cache slot = b := ⟨_, rfl⟩
  rw [hbl] at HAT hbok hio
  obtain ⟨⟨⟨k, D⟩, n, er⟩, hrr⟩ : ∃ r, readR bl = r := ⟨_, rfl⟩
  have HPR := Lib.hid (fun W => pgrRead_any bl hbok W k D n er hrr)
  have hcs := rreadR_cases bl hbok k D n er hrr
  have hin1 : er ≠ 0 ∨ k ≠ 1 → o = none := fun h => by rw [← hio]; exact inB_no (by rw [hrr]; exact h)
  have hin2 : er = 0 → k = 1 → (parseR slot n D).filter (ofB d.pages.length) = o := fun h1 h2 => by
    rw [← hio, inB_yes (by rw [hrr]; exact ⟨h1, h2⟩), hrr]
  have HI1 := Lib.hid hin1
  have HI2 := Lib.hid hin2
  have HD := Lib.hid hd
  have hn64 : (n : Int) < 18446744073709551616 ∧ D.length ≤ 120 := by
    rcases hcs with ⟨_, h1, h2, _⟩ | ⟨_, _, h1, h2⟩
    · exact ⟨by have := h2.2; omega, h1.2.2⟩
    · rw [h1, h2]; exact ⟨by decide, by decide⟩
  have HN := Lib.hid hn64
  clear hbl hio hrr hcs hin1 hin2 hd hbok hn64
  have HB := Lib.hid (Below.refl w.heap.size w)
  go_enter Try.func24, Try.ntmps24
  go_upto_region 1 with (fail)
  refine Agg.wp_at fun w1 hw1 => ?_
  have hb : Below w.heap.size w w1 := by rw [hw1.out]; repeat (first | exact Below.refl _ _ | refine Agg.bel_drew ?_ | refine Agg.bel_alloc ?_ _)
  replace HB := Lib.hid (HB.out.trans (hb.mono HB.out.size))
  replace HD := Lib.hid (HD.out.keep hb)
  clear hb
  have H2 : Hid (Blk w1 w.heap.size 30 [.slice px d.pages.length pc, .slice cx d.cache.length cc, .int .i64 d.fuse, .bool d.off]) := by show Blk _ _ _ _; rw [hw1.out]; exact (Blk.new w 30 #[.slice px d.pages.length pc, .slice cx d.cache.length cc, .int .i64 d.fuse, .bool d.off]).al _
  have H4 : Hid (Blk w1 (w.heap.size + 1) 26 [.int .i64 0, .int .u64 0, .slice none 0 0, .int .i64 0]) := by show Blk _ _ _ _; rw [hw1.out]; exact Blk.newAt (w.alloc _) 26 #[.int .i64 0, .int .u64 0, .slice none 0 0, .int .i64 0] _ (by simp)
  clear hw1
  have hsz0 := HB.out.size
  have h2 := H2.out
  go_wp2_with (refine Agg.gLoadB 4 h2 rfl rfl rfl rfl (by decide +kernel) ?_; simp only [Act.put, List.setIfInBounds_toArray, List.set_cons_succ, List.set_cons_zero])
  clear h2
  refine (HAT.out w1 HD.out).mono ?_
  rintro e w2 ⟨rfl, hb⟩
  replace HB := Lib.hid (HB.out.trans (hb.mono HB.out.size))
  replace HD := Lib.hid (HD.out.keep hb)
  replace H2 := Lib.hid (H2.out.keep hb)
  replace H4 := Lib.hid (H4.out.keep hb)
  clear hb
  go_wp2_with fail
  refine (HPR.out w2).mono ?_
  rintro e w3 ⟨u, rfl, hu, hb⟩
  replace HB := Lib.hid (HB.out.trans (hb.mono HB.out.size))
  replace HD := Lib.hid (HD.out.keep hb)
  replace H2 := Lib.hid (H2.out.keep hb)
  replace H4 := Lib.hid (H4.out.keep hb)
  clear hb
  have HU := Lib.hid hu
  obtain ⟨ux, uc, rfl, huc, hum⟩ := SlR.shape hu
  clear hu huc hum HAT HPR
  obtain ⟨nd, hnd⟩ : ∃ k, D.length = k := ⟨_, rfl⟩
  have HND := Lib.hid hnd
  rw [hnd] at HU ⊢
  clear hnd
  go_upto_region 2 with (first
    | (refine Agg.allocRow 92 #[.int .i64 0, .slice none 0 0] rfl rfl (by kernel_rfl) ?_; simp only [Act.put, List.setIfInBounds_toArray, List.set_cons_succ, List.set_cons_zero])
    | (refine Agg.gStoreNew 2 [.int .i64 k, .slice ux nd uc] rfl rfl rfl rfl rfl rfl (by decide +kernel) rfl rfl (by simp [Value.oneCell']) ?_; simp only [Act.put]))
  refine Agg.wp_at fun w4 hw4 => ?_
  have hb : Below w3.heap.size w3 w4 := by rw [hw4.out]; repeat (first | exact Below.refl _ _ | refine Agg.bel_drew ?_ | refine Agg.bel_alloc ?_ _)
  replace HB := Lib.hid (HB.out.trans (hb.mono HB.out.size))
  replace HD := Lib.hid (HD.out.keep hb)
  replace H2 := Lib.hid (H2.out.keep hb)
  replace H4 := Lib.hid (H4.out.keep hb)
  replace HU := Lib.hid (HU.out.keep hb)
  clear hb
  have H6 : Hid (Blk w4 w3.heap.size 92 [.int .i64 k, .slice ux nd uc]) := by show Blk _ _ _ _; rw [hw4.out]; exact Blk.new w3 92 #[.int .i64 k, .slice ux nd uc]
  clear hw4
  generalize w3.heap.size = g6 at *
  by_cases hek : er ≠ 0 ∨ k ≠ 1
  · obtain rfl := HI1.out hek
    obtain rfl : ec = false := by rw [← HEC.out]; rfl
    have h4 := H4.out
    have h6 := H6.out
    have hszA := HB.out.size
    by_cases he0 : er = 0
    · obtain rfl := he0
      have hk1 : (k != 1) = true := by have := hek.resolve_left (fun h => h rfl); simpa using this
      clear h6 hek
      refine Agg.listR 7 (by kernel_rfl) ?_
      simp only [List.take_succ_cons, List.take_zero, List.drop_succ_cons, List.drop_zero]
      refine Agg.chMove rfl rfl rfl rfl ?_
      refine Agg.chNe false (by decide) rfl rfl rfl rfl rfl ?_
      refine Agg.chMove rfl rfl rfl rfl ?_
      refine Agg.chFA fo_Page_0 rfl rfl rfl rfl ?_
      refine Agg.chLoadB H6.out (by decide +kernel) rfl rfl (by rfl) rfl rfl ?_
      refine Agg.chNe true hk1 rfl rfl rfl rfl rfl ?_
      refine Agg.chPick rfl rfl rfl rfl rfl ?_
      refine Agg.chEnd ?_
      intro vs w5 hb _
      show Exit.then _ _ Exit.normal _ _
      simp only [List.reverse, List.reverseAux, Agg.fill, List.set_cons_succ, List.set_cons_zero]
      replace HB := Lib.hid (HB.out.trans (hb.mono HB.out.size))
      replace HD := Lib.hid (HD.out.keep hb)
      replace H2 := Lib.hid (H2.out.keep hb)
      replace H4 := Lib.hid (H4.out.keep hb)
      replace H6 := Lib.hid (H6.out.keep hb)
      replace HU := Lib.hid (HU.out.keep hb)
      clear hb
      have h4 := H4.out
      have hszA := HB.out.size
      go_wp2_with (first
        | (refine Agg.gStoreB 4 [.int .i64 0, .int .u64 0, .slice none 0 0, .int .i64 0] h4 rfl rfl rfl rfl rfl (by decide +kernel) rfl rfl (by simp [Value.oneCell']) (fun w14 hb14 hg14 => ?_)))
      exact bodyPost_ret (results_row2 (m := 4) rfl hb14 rfl (by decide +kernel) rfl) rfl ⟨_, rfl, rt0_o _ _, HB.out.trans (grown_below hg14 hszA (fun j hj => by cases hj; omega))⟩
    · have he1 : (er != 0) = true := by simpa using he0
      clear h6 hek
      refine Agg.listR 7 (by kernel_rfl) ?_
      simp only [List.take_succ_cons, List.take_zero, List.drop_succ_cons, List.drop_zero]
      refine Agg.chMove rfl rfl rfl rfl ?_
      refine Agg.chNe true he1 rfl rfl rfl rfl rfl ?_
      refine Agg.chMove rfl rfl rfl rfl ?_
      refine Agg.chSkip rfl rfl ?_
      refine Agg.chSkip rfl rfl ?_
      refine Agg.chSkip rfl rfl ?_
      refine Agg.chPick rfl rfl rfl rfl rfl ?_
      refine Agg.chEnd ?_
      intro vs w6 hb _
      show Exit.then _ _ Exit.normal _ _
      simp only [List.reverse, List.reverseAux, Agg.fill, List.set_cons_succ, List.set_cons_zero]
      replace HB := Lib.hid (HB.out.trans (hb.mono HB.out.size))
      replace HD := Lib.hid (HD.out.keep hb)
      replace H2 := Lib.hid (H2.out.keep hb)
      replace H4 := Lib.hid (H4.out.keep hb)
      replace H6 := Lib.hid (H6.out.keep hb)
      replace HU := Lib.hid (HU.out.keep hb)
      clear hb
      have h4 := H4.out
      have hszA := HB.out.size
      go_wp2_with (first
        | (refine Agg.gStoreB 4 [.int .i64 0, .int .u64 0, .slice none 0 0, .int .i64 0] h4 rfl rfl rfl rfl rfl (by decide +kernel) rfl rfl (by simp [Value.oneCell']) (fun w14 hb14 hg14 => ?_)))
      exact bodyPost_ret (results_row2 (m := 4) rfl hb14 rfl (by decide +kernel) rfl) rfl ⟨_, rfl, rt0_o _ _, HB.out.trans (grown_below hg14 hszA (fun j hj => by cases hj; omega))⟩
  · obtain ⟨he0, hk1⟩ : er = 0 ∧ k = 1 := by omega
    subst he0 hk1
    have hpar := HI2.out rfl rfl
    obtain ⟨o2, ho2⟩ : ∃ o2, parseR slot n D = o2 := ⟨_, rfl⟩
    have HPA := Lib.hid (fun W u h => dParse_any slot n D u W h (by have := HN.out.2; omega) (by omega) (by omega) (by have := HN.out.1; omega) o2 ho2)
    rw [ho2] at hpar
    have HPF := Lib.hid hpar
    obtain ⟨r2, hr2⟩ : ∃ r2, o2.getD rt0 = r2 := ⟨_, rfl⟩
    obtain ⟨c2, hc2⟩ : ∃ c : Bool, o2.isSome = c := ⟨_, rfl⟩
    rw [hr2, hc2] at HPA
    have HR2 := Lib.hid hr2
    have HC2 := Lib.hid hc2
    clear hr2 hc2 hpar ho2 HI1 HI2 hek
    refine Agg.listR 7 (by kernel_rfl) ?_
    simp only [List.take_succ_cons, List.take_zero, List.drop_succ_cons, List.drop_zero]
    refine Agg.chMove rfl rfl rfl rfl ?_
    refine Agg.chNe false (by decide) rfl rfl rfl rfl rfl ?_
    refine Agg.chMove rfl rfl rfl rfl ?_
    refine Agg.chFA fo_Page_0 rfl rfl rfl rfl ?_
    refine Agg.chLoadB H6.out (by decide +kernel) rfl rfl (by rfl) rfl rfl ?_
    refine Agg.chNe false (by decide) rfl rfl rfl rfl rfl ?_
    refine Agg.chPick rfl rfl rfl rfl rfl ?_
    refine Agg.chEnd ?_
    intro vs w7 hb _
    show Exit.then _ _ Exit.normal _ _
    simp only [List.reverse, List.reverseAux, Agg.fill, List.set_cons_succ, List.set_cons_zero]
    replace HB := Lib.hid (HB.out.trans (hb.mono HB.out.size))
    replace HD := Lib.hid (HD.out.keep hb)
    replace H2 := Lib.hid (H2.out.keep hb)
    replace H4 := Lib.hid (H4.out.keep hb)
    replace H6 := Lib.hid (H6.out.keep hb)
    replace HU := Lib.hid (HU.out.keep hb)
    clear hb
    have c61 := H6.out.cell 1
    simp only [List.getElem?_cons_zero, List.getElem?_cons_succ] at c61
    go_wp2_with fail
    clear c61
    have hszV := HB.out.size
    refine (HPA.out w7 _ HU.out).mono ?_
    rintro e w8 ⟨v, rfl, hv, hb⟩
    replace HB := Lib.hid (HB.out.trans (hb.mono HB.out.size))
    replace HD := Lib.hid (HD.out.keep hb)
    replace H2 := Lib.hid (H2.out.keep hb)
    replace H4 := Lib.hid (H4.out.keep hb)
    replace H6 := Lib.hid (H6.out.keep hb)
    replace HU := Lib.hid (HU.out.keep hb)
    clear hb
    have HVO := Lib.hid (hv.base hszV)
    have HV2 := Lib.hid hv.read
    obtain ⟨sl2, hvv, hi2⟩ := hv.read.ex
    obtain ⟨x2, cc2, rfl, _, _⟩ := ints_shape hi2
    unfold rtV at hvv
    subst hvv
    clear hv hi2 HPA
    go_upto_region 5 with (first
      | (refine Agg.allocRow 26 #[.int .i64 0, .int .u64 0, .slice none 0 0, .int .i64 0] rfl rfl (by kernel_rfl) ?_; simp only [Act.put, List.setIfInBounds_toArray, List.set_cons_succ, List.set_cons_zero])
      | (refine Agg.gStoreNew 4 [.int .i64 r2.slot, .int .u64 (r2.stamp : Int), .slice x2 r2.pages.length cc2, .int .i64 r2.bytes] rfl rfl rfl rfl rfl rfl (by decide +kernel) rfl rfl (by simp [Value.oneCell']) ?_; simp only [Act.put]))
    refine Agg.wp_at fun w9 hw9 => ?_
    have hb : Below w8.heap.size w8 w9 := by rw [hw9.out]; repeat (first | exact Below.refl _ _ | refine Agg.bel_drew ?_ | refine Agg.bel_alloc ?_ _)
    replace HB := Lib.hid (HB.out.trans (hb.mono HB.out.size))
    replace HD := Lib.hid (HD.out.keep hb)
    replace H2 := Lib.hid (H2.out.keep hb)
    replace H4 := Lib.hid (H4.out.keep hb)
    replace HV2 := Lib.hid (HV2.out.keep hb)
    replace HVO := Lib.hid (HVO.out.keep hb)
    clear hb
    have H9 : Hid (Blk w9 w8.heap.size 26 [.int .i64 r2.slot, .int .u64 (r2.stamp : Int), .slice x2 r2.pages.length cc2, .int .i64 r2.bytes]) := by show Blk _ _ _ _; rw [hw9.out]; exact Blk.new w8 26 #[.int .i64 r2.slot, .int .u64 (r2.stamp : Int), .slice x2 r2.pages.length cc2, .int .i64 r2.bytes]
    clear hw9
    generalize w8.heap.size = g9 at *
    by_cases ho2 : o2 = none
    · obtain rfl : c2 = false := by rw [← HC2.out, ho2]; rfl
      obtain rfl : o = none := by rw [← HPF.out, ho2]; rfl
      obtain rfl : ec = false := by rw [← HEC.out]; rfl
      clear ho2
      refine Agg.listR 8 (by kernel_rfl) ?_
      simp only [List.take_succ_cons, List.take_zero, List.drop_succ_cons, List.drop_zero]
      refine Agg.chMove rfl rfl rfl rfl ?_
      refine Agg.chNot rfl rfl rfl rfl ?_
      refine Agg.chMove rfl rfl rfl rfl ?_
      refine Agg.chSkip rfl rfl ?_
      refine Agg.chSkip rfl rfl ?_
      refine Agg.chSkip rfl rfl ?_
      refine Agg.chSkip rfl rfl ?_
      refine Agg.chPick rfl rfl rfl rfl rfl ?_
      refine Agg.chEnd ?_
      intro vs w10 hb _
      show Exit.then _ _ Exit.normal _ _
      simp only [List.reverse, List.reverseAux, Agg.fill, List.set_cons_succ, List.set_cons_zero]
      replace HB := Lib.hid (HB.out.trans (hb.mono HB.out.size))
      replace HD := Lib.hid (HD.out.keep hb)
      replace H2 := Lib.hid (H2.out.keep hb)
      replace H4 := Lib.hid (H4.out.keep hb)
      replace HV2 := Lib.hid (HV2.out.keep hb)
      replace HVO := Lib.hid (HVO.out.keep hb)
      replace H9 := Lib.hid (H9.out.keep hb)
      clear hb
      have h4 := H4.out
      have hszA := HB.out.size
      go_wp2_with (first
        | (refine Agg.gStoreB 4 [.int .i64 0, .int .u64 0, .slice none 0 0, .int .i64 0] h4 rfl rfl rfl rfl rfl (by decide +kernel) rfl rfl (by simp [Value.oneCell']) (fun w14 hb14 hg14 => ?_)))
      exact bodyPost_ret (results_row2 (m := 4) rfl hb14 rfl (by decide +kernel) rfl) rfl ⟨_, rfl, rt0_o _ _, HB.out.trans (grown_below hg14 hszA (fun j hj => by cases hj; omega))⟩
    · obtain ⟨r, hor⟩ := Option.ne_none_iff_exists'.1 ho2
      obtain rfl : c2 = true := by rw [← HC2.out, hor]; rfl
      obtain rfl : r = r2 := by rw [← HR2.out, hor]; rfl
      have hfl := HPF.out
      rw [hor] at hfl
      obtain ⟨q, hq⟩ : ∃ q, ofB d.pages.length r = q := ⟨_, rfl⟩
      have HOF := Lib.hid (fun W h1 h2 => dOf_any d (.agg #[.slice px d.pages.length pc, .slice cx d.cache.length cc, .int .i64 d.fuse, .bool d.off]) r (.agg #[.int .i64 r.slot, .int .u64 (r.stamp : Int), .slice x2 r.pages.length cc2, .int .i64 r.bytes]) W h1 h2 q hq)
      have HFL : Hid ((if q = true then some r else none) = o) := Lib.hid (by rw [← hfl, ← hq]; rfl)
      clear hfl hq hor ho2
      refine Agg.listR 8 (by kernel_rfl) ?_
      simp only [List.take_succ_cons, List.take_zero, List.drop_succ_cons, List.drop_zero]
      refine Agg.chMove rfl rfl rfl rfl ?_
      refine Agg.chNot rfl rfl rfl rfl ?_
      refine Agg.chMove rfl rfl rfl rfl ?_
      refine Agg.chRowB 4 H2.out rfl (by decide +kernel) rfl rfl rfl rfl ?_
      refine Agg.chRowB 4 H9.out rfl (by decide +kernel) rfl rfl rfl rfl ?_
      refine Agg.chCall Try.func32 rfl (by kernel_rfl) rfl rfl rfl rfl (fun W hb => HOF.out W (HD.out.keep hb) (HV2.out.keep hb)) ?_
      refine Agg.chNot rfl rfl rfl rfl ?_
      refine Agg.chPick rfl rfl rfl rfl rfl ?_
      refine Agg.chEnd ?_
      intro vs w11 hb _
      show Exit.then _ _ Exit.normal _ _
      simp only [List.reverse, List.reverseAux, Agg.fill, List.set_cons_succ, List.set_cons_zero]
      replace HB := Lib.hid (HB.out.trans (hb.mono HB.out.size))
      replace HD := Lib.hid (HD.out.keep hb)
      replace H2 := Lib.hid (H2.out.keep hb)
      replace H4 := Lib.hid (H4.out.keep hb)
      replace HV2 := Lib.hid (HV2.out.keep hb)
      replace HVO := Lib.hid (HVO.out.keep hb)
      replace H9 := Lib.hid (H9.out.keep hb)
      clear hb
      have h4 := H4.out
      have hszA := HB.out.size
      have h9 := H9.out
      cases q
      · obtain rfl : o = none := by rw [← HFL.out]; rfl
        obtain rfl : ec = false := by rw [← HEC.out]; rfl
        go_wp2_with (first
          | (refine Agg.gStoreB 4 [.int .i64 0, .int .u64 0, .slice none 0 0, .int .i64 0] h4 rfl rfl rfl rfl rfl (by decide +kernel) rfl rfl (by simp [Value.oneCell']) (fun w14 hb14 hg14 => ?_)))
        exact bodyPost_ret (results_row2 (m := 4) rfl hb14 rfl (by decide +kernel) rfl) rfl ⟨_, rfl, rt0_o _ _, HB.out.trans (grown_below hg14 hszA (fun j hj => by cases hj; omega))⟩
      · have hso : o = some r := by rw [← HFL.out]; rfl
        subst hso
        obtain rfl : ec = true := by rw [← HEC.out]; rfl
        go_wp2_with (first
          | (refine Agg.gLoadB 4 h9 rfl rfl rfl rfl (by decide +kernel) ?_; simp only [Act.put, List.setIfInBounds_toArray, List.set_cons_succ, List.set_cons_zero])
          | (refine Agg.gStoreB 4 [.int .i64 r.slot, .int .u64 (r.stamp : Int), .slice x2 r.pages.length cc2, .int .i64 r.bytes] h4 rfl rfl rfl rfl rfl (by decide +kernel) rfl rfl (by simp [Value.oneCell']) (fun w14 hb14 hg14 => ?_)))
        exact bodyPost_ret (results_row2 (m := 4) rfl hb14 rfl (by decide +kernel) rfl) rfl ⟨_, rfl, HVO.out.far h4 (by decide) hg14, HB.out.trans (grown_below hg14 hszA (fun j hj => by cases hj; omega))⟩
end Go.Proofs.Ytjnnnnolikbjcaa
end
section
/-
  ROOTS: the document's Find.
-/
namespace Go.Proofs.Ytjnnnnolikbjcaa
open Go.ChangeShapes Go.WideShapes Go.ChangeAt Go.RowKit Agg Pg Dv
attribute [local go_sem] Oper.semAt_some

set_option maxHeartbeats 8000000 in
set_option maxRecDepth 100000 in
theorem dFind_any (d : Dev) (dv : Value) (w : World) (hg : DGood d) (hc : d.cache.length ≤ 1000000) (hd : DevR w dv d) (hl : 2 ≤ d.pages.length) (o : Option Rt) (ho : findR d = o) :
    Calls Try.prog 23 #[dv] w fun e w' => ∃ v, e = .returned (.tuple #[v, .bool o.isSome]) ∧ RtO w.heap.size w' v (o.getD rt0) ∧ Below w.heap.size w w' := by
  obtain ⟨px, pc, cx, cc, rfl⟩ := hd.shape
  unfold findR at ho
  obtain ⟨oa, hoa⟩ : ∃ x, inR d 0 = x := ⟨_, rfl⟩
  obtain ⟨ob, hob⟩ : ∃ x, inR d 1 = x := ⟨_, rfl⟩
  have HIA := Lib.hid (fun W v h => dIn_any d 0 v W hg hc h hl (.inl rfl) oa hoa)
  have HIB := Lib.hid (fun W v h => dIn_any d 1 v W hg hc h hl (.inr rfl) ob hob)
  rw [hoa, hob] at ho
  obtain ⟨a, ha⟩ : ∃ x, oa.getD rt0 = x := ⟨_, rfl⟩
  obtain ⟨b, hb⟩ : ∃ x, ob.getD rt0 = x := ⟨_, rfl⟩
  obtain ⟨qa, hqa⟩ : ∃ x, oa.isSome = x := ⟨_, rfl⟩
  obtain ⟨qb, hqb⟩ : ∃ x, ob.isSome = x := ⟨_, rfl⟩
  rw [ha, hqa] at HIA
  rw [hb, hqb] at HIB
  obtain ⟨t, ht⟩ : ∃ t, decide ((b.stamp : Int) > (a.stamp : Int)) = t := ⟨_, rfl⟩
  -- what is told: the one in slot 1, or the one in slot 0
  have H1 : Hid ((qa = false ∨ (qb = true ∧ t = true)) → o.getD rt0 = b ∧ o.isSome = qb) := Lib.hid (fun h => by
    cases oa with
    | none =>
      rw [bestR_no] at ho
      subst ho
      exact ⟨hb, hqb⟩
    | some a' =>
      rcases h with h | ⟨h1, h2⟩
      · rw [h] at hqa; cases hqa
      · cases ob with
        | none => rw [h1] at hqb; cases hqb
        | some b' =>
          have ea : a' = a := ha
          have eb : b' = b := hb
          subst ea eb
          have h3 := of_decide_eq_true (ht.trans h2)
          rw [bestR_two, if_pos (by omega)] at ho
          subst ho
          exact ⟨rfl, hqb⟩)
  have H2 : Hid (qa = true → (qb = false ∨ t = false) → o.getD rt0 = a ∧ o.isSome = true) := Lib.hid (fun h0 h => by
    cases oa with
    | none => rw [h0] at hqa; cases hqa
    | some a' =>
      have ea : a' = a := ha
      subst ea
      cases ob with
      | none =>
        rw [bestR_one] at ho
        subst ho
        exact ⟨rfl, rfl⟩
      | some b' =>
        have eb : b' = b := hb
        subst eb
        rcases h with h | h
        · rw [h] at hqb; cases hqb
        · have h3 := of_decide_eq_false (ht.trans h)
          rw [bestR_two, if_neg (by omega)] at ho
          subst ho
          exact ⟨rfl, rfl⟩)
  have HT := Lib.hid ht
  have HD := Lib.hid hd
  obtain ⟨r, hr⟩ : ∃ x, o.getD rt0 = x := ⟨_, rfl⟩
  obtain ⟨ec, hec⟩ : ∃ x, o.isSome = x := ⟨_, rfl⟩
  rw [hr, hec] at H1 H2 ⊢
  clear ho hoa hob ha hb hqa hqb hd ht hr hec
  have HB := Lib.hid (Below.refl w.heap.size w)
  go_enter Try.func23, Try.ntmps23
  go_upto_region 1 with (fail)
  refine Agg.wp_at fun w1 hw1 => ?_
  have hb : Below w.heap.size w w1 := by rw [hw1.out]; repeat (first | exact Below.refl _ _ | refine Agg.bel_drew ?_ | refine Agg.bel_alloc ?_ _)
  replace HB := Lib.hid (HB.out.trans (hb.mono HB.out.size))
  replace HD := Lib.hid (HD.out.keep hb)
  clear hb
  have H1D : Hid (Blk w1 w.heap.size 30 [.slice px d.pages.length pc, .slice cx d.cache.length cc, .int .i64 d.fuse, .bool d.off]) := by show Blk _ _ _ _; rw [hw1.out]; exact (Blk.new w 30 #[.slice px d.pages.length pc, .slice cx d.cache.length cc, .int .i64 d.fuse, .bool d.off]).al _
  have H2R : Hid (Blk w1 (w.heap.size + 1) 26 [.int .i64 0, .int .u64 0, .slice none 0 0, .int .i64 0]) := by show Blk _ _ _ _; rw [hw1.out]; exact Blk.newAt (w.alloc _) 26 #[.int .i64 0, .int .u64 0, .slice none 0 0, .int .i64 0] _ (by simp)
  clear hw1
  have hsz1 := HB.out.size
  have h1 := H1D.out
  go_wp2_with (refine Agg.gLoadB 4 h1 rfl rfl rfl rfl (by decide +kernel) ?_; simp only [Act.put, List.setIfInBounds_toArray, List.set_cons_succ, List.set_cons_zero])
  clear h1
  refine (HIA.out w1 _ HD.out).mono ?_
  rintro e w2 ⟨v, rfl, hv, hb⟩
  replace HB := Lib.hid (HB.out.trans (hb.mono HB.out.size))
  replace HD := Lib.hid (HD.out.keep hb)
  replace H1D := Lib.hid (H1D.out.keep hb)
  replace H2R := Lib.hid (H2R.out.keep hb)
  clear hb
  have HVA := Lib.hid (hv.base hsz1)
  obtain ⟨sla, hvv, hvo⟩ := hv
  obtain ⟨xa, xac, rfl, _, _⟩ := (ownSl hvo).shape
  unfold rtV at hvv
  subst hvv
  clear hvo HIA
  go_upto_region 2 with (first
    | (refine Agg.allocRow 26 #[.int .i64 0, .int .u64 0, .slice none 0 0, .int .i64 0] rfl rfl (by kernel_rfl) ?_; simp only [Act.put, List.setIfInBounds_toArray, List.set_cons_succ, List.set_cons_zero])
    | (refine Agg.gStoreNew 4 [.int .i64 a.slot, .int .u64 (a.stamp : Int), .slice xa a.pages.length xac, .int .i64 a.bytes] rfl rfl rfl rfl rfl rfl (by decide +kernel) rfl rfl (by simp [Value.oneCell']) ?_; simp only [Act.put]))
  refine Agg.wp_at fun w3 hw3 => ?_
  have hb : Below w2.heap.size w2 w3 := by rw [hw3.out]; repeat (first | exact Below.refl _ _ | refine Agg.bel_drew ?_ | refine Agg.bel_alloc ?_ _)
  replace HB := Lib.hid (HB.out.trans (hb.mono HB.out.size))
  replace HD := Lib.hid (HD.out.keep hb)
  replace H1D := Lib.hid (H1D.out.keep hb)
  replace H2R := Lib.hid (H2R.out.keep hb)
  replace HVA := Lib.hid (HVA.out.keep hb)
  clear hb
  have H4 : Hid (Blk w3 w2.heap.size 26 [.int .i64 a.slot, .int .u64 (a.stamp : Int), .slice xa a.pages.length xac, .int .i64 a.bytes]) := by show Blk _ _ _ _; rw [hw3.out]; exact Blk.new w2 26 #[.int .i64 a.slot, .int .u64 (a.stamp : Int), .slice xa a.pages.length xac, .int .i64 a.bytes]
  clear hw3
  generalize w2.heap.size = g4 at *
  have hsz2 := HB.out.size
  have h1 := H1D.out
  go_wp2_with (refine Agg.gLoadB 4 h1 rfl rfl rfl rfl (by decide +kernel) ?_; simp only [Act.put, List.setIfInBounds_toArray, List.set_cons_succ, List.set_cons_zero])
  clear h1
  refine (HIB.out w3 _ HD.out).mono ?_
  rintro e w4 ⟨v, rfl, hv, hb⟩
  replace HB := Lib.hid (HB.out.trans (hb.mono HB.out.size))
  replace HD := Lib.hid (HD.out.keep hb)
  replace H1D := Lib.hid (H1D.out.keep hb)
  replace H2R := Lib.hid (H2R.out.keep hb)
  replace HVA := Lib.hid (HVA.out.keep hb)
  replace H4 := Lib.hid (H4.out.keep hb)
  clear hb
  have HVB := Lib.hid (hv.base hsz2)
  obtain ⟨slb, hvv, hvo⟩ := hv
  obtain ⟨xb, xbc, rfl, _, _⟩ := (ownSl hvo).shape
  unfold rtV at hvv
  subst hvv
  clear hvo HIB
  go_upto_region 3 with (first
    | (refine Agg.allocRow 26 #[.int .i64 0, .int .u64 0, .slice none 0 0, .int .i64 0] rfl rfl (by kernel_rfl) ?_; simp only [Act.put, List.setIfInBounds_toArray, List.set_cons_succ, List.set_cons_zero])
    | (refine Agg.gStoreNew 4 [.int .i64 b.slot, .int .u64 (b.stamp : Int), .slice xb b.pages.length xbc, .int .i64 b.bytes] rfl rfl rfl rfl rfl rfl (by decide +kernel) rfl rfl (by simp [Value.oneCell']) ?_; simp only [Act.put]))
  refine Agg.wp_at fun w5 hw5 => ?_
  have hb : Below w4.heap.size w4 w5 := by rw [hw5.out]; repeat (first | exact Below.refl _ _ | refine Agg.bel_drew ?_ | refine Agg.bel_alloc ?_ _)
  replace HB := Lib.hid (HB.out.trans (hb.mono HB.out.size))
  replace H2R := Lib.hid (H2R.out.keep hb)
  replace HVA := Lib.hid (HVA.out.keep hb)
  replace H4 := Lib.hid (H4.out.keep hb)
  replace HVB := Lib.hid (HVB.out.keep hb)
  clear hb
  have H6 : Hid (Blk w5 w4.heap.size 26 [.int .i64 b.slot, .int .u64 (b.stamp : Int), .slice xb b.pages.length xbc, .int .i64 b.bytes]) := by show Blk _ _ _ _; rw [hw5.out]; exact Blk.new w4 26 #[.int .i64 b.slot, .int .u64 (b.stamp : Int), .slice xb b.pages.length xbc, .int .i64 b.bytes]
  clear hw5
  generalize w4.heap.size = g6 at *
  have hszC := HB.out.size
  rcases (show qa = false ∨ qa = true by cases qa <;> simp) with rfl | rfl
  · obtain ⟨rfl, rfl⟩ := H1.out (.inl rfl)
    refine Agg.listR 12 (by kernel_rfl) ?_
    simp only [List.take_succ_cons, List.take_zero, List.drop_succ_cons, List.drop_zero]
    refine Agg.chMove rfl rfl rfl rfl ?_
    refine Agg.chNot rfl rfl rfl rfl ?_
    refine Agg.chMove rfl rfl rfl rfl ?_
    refine Agg.chSkip rfl rfl ?_
    refine Agg.chSkip rfl rfl ?_
    refine Agg.chSkip rfl rfl ?_
    refine Agg.chSkip rfl rfl ?_
    refine Agg.chSkip rfl rfl ?_
    refine Agg.chSkip rfl rfl ?_
    refine Agg.chSkip rfl rfl ?_
    refine Agg.chSkip rfl rfl ?_
    refine Agg.chPick rfl rfl rfl rfl rfl ?_
    refine Agg.chEnd ?_
    intro vs w6 hb _
    show Exit.then _ _ Exit.normal _ _
    simp only [List.reverse, List.reverseAux, Agg.fill, List.set_cons_succ, List.set_cons_zero]
    replace HB := Lib.hid (HB.out.trans (hb.mono HB.out.size))
    replace H2R := Lib.hid (H2R.out.keep hb)
    replace HVA := Lib.hid (HVA.out.keep hb)
    replace H4 := Lib.hid (H4.out.keep hb)
    replace HVB := Lib.hid (HVB.out.keep hb)
    replace H6 := Lib.hid (H6.out.keep hb)
    clear hb
    have h2 := H2R.out
    have h6 := H6.out
    have hszD := HB.out.size
    go_wp2_with (first
      | (refine Agg.gLoadB 4 h6 rfl rfl rfl rfl (by decide +kernel) ?_; simp only [Act.put, List.setIfInBounds_toArray, List.set_cons_succ, List.set_cons_zero])
      | (refine Agg.gStoreB 4 [.int .i64 r.slot, .int .u64 (r.stamp : Int), .slice xb r.pages.length xbc, .int .i64 r.bytes] h2 rfl rfl rfl rfl rfl (by decide +kernel) rfl rfl (by simp [Value.oneCell']) (fun w14 hb14 hg14 => ?_)))
    exact bodyPost_ret (results_row2 (m := 4) rfl hb14 rfl (by decide +kernel) rfl) rfl ⟨_, rfl, HVB.out.far h2 (by decide) hg14, HB.out.trans (grown_below hg14 hszD (fun j hj => by cases hj; omega))⟩
  · skip
    rcases (show qb = false ∨ qb = true by cases qb <;> simp) with rfl | rfl
    · obtain ⟨rfl, rfl⟩ := H2.out rfl (.inl rfl)
      refine Agg.listR 12 (by kernel_rfl) ?_
      simp only [List.take_succ_cons, List.take_zero, List.drop_succ_cons, List.drop_zero]
      refine Agg.chMove rfl rfl rfl rfl ?_
      refine Agg.chNot rfl rfl rfl rfl ?_
      refine Agg.chMove rfl rfl rfl rfl ?_
      refine Agg.chMove rfl rfl rfl rfl ?_
      refine Agg.chMove rfl rfl rfl rfl ?_
      refine Agg.chSkip rfl rfl ?_
      refine Agg.chSkip rfl rfl ?_
      refine Agg.chSkip rfl rfl ?_
      refine Agg.chSkip rfl rfl ?_
      refine Agg.chSkip rfl rfl ?_
      refine Agg.chPick rfl rfl rfl rfl rfl ?_
      refine Agg.chPick rfl rfl rfl rfl rfl ?_
      refine Agg.chEnd ?_
      intro vs w7 hb _
      show Exit.then _ _ Exit.normal _ _
      simp only [List.reverse, List.reverseAux, Agg.fill, List.set_cons_succ, List.set_cons_zero]
      replace HB := Lib.hid (HB.out.trans (hb.mono HB.out.size))
      replace H2R := Lib.hid (H2R.out.keep hb)
      replace HVA := Lib.hid (HVA.out.keep hb)
      replace H4 := Lib.hid (H4.out.keep hb)
      replace HVB := Lib.hid (HVB.out.keep hb)
      replace H6 := Lib.hid (H6.out.keep hb)
      clear hb
      have h2 := H2R.out
      have h4 := H4.out
      have hszD := HB.out.size
      go_wp2_with (first
        | (refine Agg.gLoadB 4 h4 rfl rfl rfl rfl (by decide +kernel) ?_; simp only [Act.put, List.setIfInBounds_toArray, List.set_cons_succ, List.set_cons_zero])
        | (refine Agg.gStoreB 4 [.int .i64 r.slot, .int .u64 (r.stamp : Int), .slice xa r.pages.length xac, .int .i64 r.bytes] h2 rfl rfl rfl rfl rfl (by decide +kernel) rfl rfl (by simp [Value.oneCell']) (fun w14 hb14 hg14 => ?_)))
      exact bodyPost_ret (results_row2 (m := 4) rfl hb14 rfl (by decide +kernel) rfl) rfl ⟨_, rfl, HVA.out.far h2 (by decide) hg14, HB.out.trans (grown_below hg14 hszD (fun j hj => by cases hj; omega))⟩
    · skip
      refine Agg.listR 12 (by kernel_rfl) ?_
      simp only [List.take_succ_cons, List.take_zero, List.drop_succ_cons, List.drop_zero]
      refine Agg.chMove rfl rfl rfl rfl ?_
      refine Agg.chNot rfl rfl rfl rfl ?_
      refine Agg.chMove rfl rfl rfl rfl ?_
      refine Agg.chMove rfl rfl rfl rfl ?_
      refine Agg.chMove rfl rfl rfl rfl ?_
      refine Agg.chFA fo_Rt_1 rfl rfl rfl rfl ?_
      refine Agg.chLoadB H6.out (by decide +kernel) rfl rfl (by rfl) rfl rfl ?_
      refine Agg.chFA fo_Rt_1 rfl rfl rfl rfl ?_
      refine Agg.chLoadB H4.out (by decide +kernel) rfl rfl (by rfl) rfl rfl ?_
      refine Agg.chGt (t) HT.out rfl rfl rfl rfl rfl ?_
      refine Agg.chPick rfl rfl rfl rfl rfl ?_
      refine Agg.chPick rfl rfl rfl rfl rfl ?_
      refine Agg.chEnd ?_
      intro vs w8 hb _
      show Exit.then _ _ Exit.normal _ _
      simp only [List.reverse, List.reverseAux, Agg.fill, List.set_cons_succ, List.set_cons_zero]
      replace HB := Lib.hid (HB.out.trans (hb.mono HB.out.size))
      replace H2R := Lib.hid (H2R.out.keep hb)
      replace HVA := Lib.hid (HVA.out.keep hb)
      replace H4 := Lib.hid (H4.out.keep hb)
      replace HVB := Lib.hid (HVB.out.keep hb)
      replace H6 := Lib.hid (H6.out.keep hb)
      clear hb
      have h2 := H2R.out
      have h4 := H4.out
      have h6 := H6.out
      have hszD := HB.out.size
      cases t
      · obtain ⟨rfl, rfl⟩ := H2.out rfl (.inr rfl)
        go_wp2_with (first
          | (refine Agg.gLoadB 4 h4 rfl rfl rfl rfl (by decide +kernel) ?_; simp only [Act.put, List.setIfInBounds_toArray, List.set_cons_succ, List.set_cons_zero])
          | (refine Agg.gStoreB 4 [.int .i64 r.slot, .int .u64 (r.stamp : Int), .slice xa r.pages.length xac, .int .i64 r.bytes] h2 rfl rfl rfl rfl rfl (by decide +kernel) rfl rfl (by simp [Value.oneCell']) (fun w14 hb14 hg14 => ?_)))
        exact bodyPost_ret (results_row2 (m := 4) rfl hb14 rfl (by decide +kernel) rfl) rfl ⟨_, rfl, HVA.out.far h2 (by decide) hg14, HB.out.trans (grown_below hg14 hszD (fun j hj => by cases hj; omega))⟩
      · obtain ⟨rfl, rfl⟩ := H1.out (.inr ⟨rfl, rfl⟩)
        go_wp2_with (first
          | (refine Agg.gLoadB 4 h6 rfl rfl rfl rfl (by decide +kernel) ?_; simp only [Act.put, List.setIfInBounds_toArray, List.set_cons_succ, List.set_cons_zero])
          | (refine Agg.gStoreB 4 [.int .i64 r.slot, .int .u64 (r.stamp : Int), .slice xb r.pages.length xbc, .int .i64 r.bytes] h2 rfl rfl rfl rfl rfl (by decide +kernel) rfl rfl (by simp [Value.oneCell']) (fun w14 hb14 hg14 => ?_)))
        exact bodyPost_ret (results_row2 (m := 4) rfl hb14 rfl (by decide +kernel) rfl) rfl ⟨_, rfl, HVB.out.far h2 (by decide) hg14, HB.out.trans (grown_below hg14 hszD (fun j hj => by cases hj; omega))⟩
end Go.Proofs.Ytjnnnnolikbjcaa
end
