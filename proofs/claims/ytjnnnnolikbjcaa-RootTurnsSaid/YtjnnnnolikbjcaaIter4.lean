/-
  ROOTS: in: the root that stands in a slot.
-/
import Derived.Test.YtjnnnnolikbjcaaRt9
import Derived.Test.YtjnnnnolikbjcaaRFdDvN
section
namespace Go.Proofs.Ytjnnnnolikbjcaa
open Go.ChangeShapes Go.WideShapes Go.ChangeAt Go.RowKit Agg Pg Dv
attribute [local go_sem] Oper.semAt_some

theorem inB_no {n : Nat} {slot : Int} {b : List Sec} (h : (readR b).2.2 ≠ 0 ∨ (readR b).1.1 ≠ 1) : inB n slot b = none := by
  unfold inB
  rw [if_neg (fun hh => by exact h.elim (fun h => h hh.1) (fun h => h hh.2))]
theorem inB_yes {n : Nat} {slot : Int} {b : List Sec} (h : (readR b).2.2 = 0 ∧ (readR b).1.1 = 1) : inB n slot b = (parseR slot (readR b).2.1 (readR b).1.2).filter (ofB n) := by
  unfold inB; rw [if_pos h]
theorem rtw_of {r : Rt} (h : RightR r) : RtW r := by
  have h1 := h.n1
  have h2 := h.n57
  have h3 := h.b1
  have h4 := h.b2
  have h5 := h.stamp.2
  exact ⟨by rcases h.slot with e | e <;> omega, by rcases h.slot with e | e <;> omega, by omega, by omega, by omega, fun x hx => by have := h.page hx; omega, by omega⟩

set_option maxHeartbeats 8000000 in
set_option maxRecDepth 100000 in
theorem in_any (d : Dev) (slot : Int) (dv : Value) (w : World) (hg : DGood d) (hc : d.cache.length ≤ 1000000) (hd : DevR w dv d) (hr : rightD d = true) (ho : d.off = false) (hs : slot = 0 ∨ slot = 1) (o : Option Rt) (hio : inR d slot = o) (ec : Int) (hec : (if o.isSome then (0 : Int) else 331) = ec) :
    Calls Try.prog 50 #[dv, .int .i64 slot] w fun e w' => ∃ v, e = .returned (.tuple #[v, .int .i64 ec]) ∧ RtO w.heap.size w' v (o.getD rt0) ∧ Below w.heap.size w w' := by
  obtain ⟨px, pc, cx, cc, rfl⟩ := hd.shape
  have h24 := (right_six hr).1
  have hrd := read_pow hr ho (k := slot) (by unfold thereB; simp only [Bool.and_eq_true, decide_eq_true_eq]; omega)
  have HRD := Lib.hid (fun W v h => read_R (w := W) (v := v) hg hc h slot)
  rw [hrd] at HRD
  have hbok := rreadP_bok hg slot
  rw [hrd] at hbok
  unfold inR at hio
  obtain ⟨bl, hbl⟩ : ∃ b, saysP d.pages d.cache slot = b := ⟨_, rfl⟩
  rw [hbl] at HRD hbok hio
  dsimp only at HRD hbok
  obtain ⟨⟨⟨k, D⟩, n, er⟩, hrr⟩ : ∃ r, readR bl = r := ⟨_, rfl⟩
  have HPR := Lib.hid (fun W => pgRead_any bl hbok W k D n er hrr)
  have hcs := rreadR_cases bl hbok k D n er hrr
  have hin1 : er ≠ 0 ∨ k ≠ 1 → o = none := fun h => by rw [← hio]; exact inB_no (by rw [hrr]; exact h)
  have hin2 : er = 0 → k = 1 → (parseR slot n D).filter (ofB d.pages.length) = o := fun h1 h2 => by
    rw [← hio, inB_yes (by rw [hrr]; exact ⟨h1, h2⟩), hrr]
  have HBK := Lib.hid hbok
  have HI1 := Lib.hid hin1
  have HI2 := Lib.hid hin2
  have HCS := Lib.hid hcs
  have HEC := Lib.hid hec
  have HD := Lib.hid hd
  have hn64 : (n : Int) < 18446744073709551616 ∧ D.length ≤ 120 := by
    rcases hcs with ⟨_, h1, h2, _⟩ | ⟨_, _, h1, h2⟩
    · exact ⟨by have := h2.2; omega, h1.2.2⟩
    · rw [h1, h2]; exact ⟨by decide, by decide⟩
  have HN := Lib.hid hn64
  have HOK := Lib.hid ho
  clear hbl hrd hio hrr hcs hin1 hin2 hec hd h24 hr hbok hn64 ho
  have h132 := bok_cells HBK.out
  have HB := Lib.hid (Below.refl w.heap.size w)
  go_enter Try.func50, Try.ntmps50
  go_upto_region 1 with (fail)
  refine Agg.wp_at fun w1 hw1 => ?_
  have hb : Below w.heap.size w w1 := by rw [hw1.out]; repeat (first | exact Below.refl _ _ | refine Agg.bel_drew ?_ | refine Agg.bel_alloc ?_ _)
  replace HB := Lib.hid (HB.out.trans (hb.mono HB.out.size))
  replace HD := Lib.hid (HD.out.keep hb)
  clear hb
  have H2 : Hid (Blk w1 w.heap.size 30 [.slice px d.pages.length pc, .slice cx d.cache.length cc, .int .i64 d.fuse, .bool d.off]) := by show Blk _ _ _ _; rw [hw1.out]; exact (Blk.new w 30 #[.slice px d.pages.length pc, .slice cx d.cache.length cc, .int .i64 d.fuse, .bool d.off]).al _
  have H4 : Hid (Blk w1 (w.heap.size + 1) 26 [.int .i64 0, .int .u64 0, .slice none 0 0, .int .i64 0]) := by show Blk _ _ _ _; rw [hw1.out]; exact Blk.newAt (w.alloc _) 26 #[.int .i64 0, .int .u64 0, .slice none 0 0, .int .i64 0] _ (by simp)
  clear hw1
  have h2l := H4.out.lt
  have h2 := H2.out
  go_wp2_with (refine Agg.gLoadB 4 h2 rfl rfl rfl rfl (by decide +kernel) ?_; simp only [Act.put, List.setIfInBounds_toArray, List.set_cons_succ, List.set_cons_zero])
  clear h2
  refine (HRD.out w1 _ HD.out).mono ?_
  rintro e w2 ⟨rfl, hb⟩
  replace HB := Lib.hid (HB.out.trans (hb.mono HB.out.size))
  replace HD := Lib.hid (HD.out.keep hb)
  replace H2 := Lib.hid (H2.out.keep hb)
  replace H4 := Lib.hid (H4.out.keep hb)
  clear hb
  have hs4 := H4.out.lt
  go_upto_region 2 with (first
    | (refine Agg.allocRow 38 (blkC zeroB).toArray rfl rfl (by kernel_rfl) ?_; simp only [Act.put, List.setIfInBounds_toArray, List.set_cons_succ, List.set_cons_zero])
    | (refine Agg.gStoreNew 132 (blkC bl) rfl rfl rfl rfl rfl rfl (by decide +kernel) h132 zero132 (blkC_one _) ?_; simp only [Act.put]))
  have hszw := HB.out.size
  refine Agg.wp_at fun w3 hw3 => ?_
  have hb : Below w2.heap.size w2 w3 := by rw [hw3.out]; repeat (first | exact Below.refl _ _ | refine Agg.bel_drew ?_ | refine Agg.bel_alloc ?_ _)
  replace HB := Lib.hid (HB.out.trans (hb.mono HB.out.size))
  replace HD := Lib.hid (HD.out.keep hb)
  replace H2 := Lib.hid (H2.out.keep hb)
  replace H4 := Lib.hid (H4.out.keep hb)
  clear hb
  have H6 : Hid (Blk w3 w2.heap.size 38 (blkC bl)) := by show Blk _ _ _ _; rw [hw3.out]; exact Blk.new w2 38 (blkC bl).toArray
  clear hw3
  obtain ⟨g6, hg6⟩ : ∃ g, w2.heap.size = g := ⟨_, rfl⟩
  have hsg6 : w.heap.size + 1 < g6 := by rw [← hg6]; exact hs4
  rw [hg6] at H6 ⊢
  clear hg6 hszw hs4 h2l
  have h6 := H6.out
  go_wp2_with (refine Agg.gLoadB 132 h6 h132 rfl rfl rfl (by decide +kernel) ?_; simp only [Act.put, List.setIfInBounds_toArray, List.set_cons_succ, List.set_cons_zero])
  clear h6
  refine (HPR.out w3).mono ?_
  rintro e w4 ⟨u, rfl, hu, hb⟩
  replace HB := Lib.hid (HB.out.trans (hb.mono HB.out.size))
  replace HD := Lib.hid (HD.out.keep hb)
  replace H2 := Lib.hid (H2.out.keep hb)
  replace H4 := Lib.hid (H4.out.keep hb)
  replace H6 := Lib.hid (H6.out.keep hb)
  clear hb
  have HU : Hid (Bytes w4 u D) := Lib.hid (ownSl hu)
  obtain ⟨ux, uc, rfl, huc, hum⟩ := SlR.shape (ownSl hu)
  clear hu huc hum
  obtain ⟨nd, hnd⟩ : ∃ k, D.length = k := ⟨_, rfl⟩
  have HND := Lib.hid hnd
  rw [hnd] at HU ⊢
  clear hnd
  have hs6 := H6.out.lt
  have hszw := HB.out.size
  go_upto_region 3 with (first
    | (refine Agg.allocRow 92 #[.int .i64 0, .slice none 0 0] rfl rfl (by kernel_rfl) ?_; simp only [Act.put, List.setIfInBounds_toArray, List.set_cons_succ, List.set_cons_zero])
    | (refine Agg.gStoreNew 2 [.int .i64 k, .slice ux nd uc] rfl rfl rfl rfl rfl rfl (by decide +kernel) rfl rfl (by simp [Value.oneCell']) ?_; simp only [Act.put]))
  refine Agg.wp_at fun w5 hw5 => ?_
  have hb : Below w4.heap.size w4 w5 := by rw [hw5.out]; repeat (first | exact Below.refl _ _ | refine Agg.bel_drew ?_ | refine Agg.bel_alloc ?_ _)
  replace HB := Lib.hid (HB.out.trans (hb.mono HB.out.size))
  replace HD := Lib.hid (HD.out.keep hb)
  replace H2 := Lib.hid (H2.out.keep hb)
  replace H4 := Lib.hid (H4.out.keep hb)
  replace H6 := Lib.hid (H6.out.keep hb)
  replace HU := Lib.hid (HU.out.keep hb)
  clear hb
  have H8 : Hid (Blk w5 w4.heap.size 92 [.int .i64 k, .slice ux nd uc]) := by show Blk _ _ _ _; rw [hw5.out]; exact Blk.new w4 92 #[.int .i64 k, .slice ux nd uc]
  clear hw5
  obtain ⟨g8, hg8⟩ : ∃ g, w4.heap.size = g := ⟨_, rfl⟩
  have hsg8 : g6 < g8 := by rw [← hg8]; exact hs6
  rw [hg8] at H8 ⊢
  clear hg8 hszw hs6
  by_cases he : er = 0
  · subst he
    by_cases hk : k = 1
    · subst hk
      have hpar := HI2.out rfl rfl
      have hbl : layB 1 D n = bl := (HCS.out.resolve_right (fun h => h.1 rfl)).2.2.2
      have c80 := H8.out.cell 0
      have c81 := H8.out.cell 1
      simp only [List.getElem?_cons_zero, List.getElem?_cons_succ] at c80 c81
      obtain ⟨o2, ho2⟩ : ∃ o2, parseR slot n D = o2 := ⟨_, rfl⟩
      have HPA := Lib.hid (fun W u h => parse_any slot n D u W h (by have := HN.out.2; omega) (by omega) (by omega) (by have := HN.out.1; omega) o2 ho2)
      have HSM : Hid (∀ r, o2 = some r → RightR r ∧ blkR r = bl) := Lib.hid (fun r h => by
        obtain ⟨a1, a2, _, a4⟩ := parse_some (ho2.trans h)
        exact ⟨a2, by unfold blkR; rw [a1, a4]; exact hbl⟩)
      rw [ho2] at hpar
      have HPF := Lib.hid hpar
      obtain ⟨r2, hr2⟩ : ∃ r2, o2.getD rt0 = r2 := ⟨_, rfl⟩
      obtain ⟨c2, hc2⟩ : ∃ c : Int, (if o2.isSome then (0 : Int) else 330) = c := ⟨_, rfl⟩
      rw [hr2, hc2] at HPA
      have HR2 := Lib.hid hr2
      have HC2 := Lib.hid hc2
      clear hr2 hc2
      clear hpar hbl ho2 HI1 HI2 HCS HPR HRD
      have hszV := HB.out.size
      go_upto_region 5 with (fail)
      clear c80
      go_wp2_with fail
      clear c81
      refine (HPA.out w5 _ HU.out).mono ?_
      rintro e w6 ⟨v, rfl, hv, hb⟩
      replace HB := Lib.hid (HB.out.trans (hb.mono HB.out.size))
      replace HD := Lib.hid (HD.out.keep hb)
      replace H2 := Lib.hid (H2.out.keep hb)
      replace H4 := Lib.hid (H4.out.keep hb)
      replace H6 := Lib.hid (H6.out.keep hb)
      replace HU := Lib.hid (HU.out.keep hb)
      replace H8 := Lib.hid (H8.out.keep hb)
      clear hb
      have HVO := Lib.hid (hv.base hszV)
      have HV2 := Lib.hid hv.read
      obtain ⟨sl2, hvv, hi2⟩ := hv.read.ex
      obtain ⟨x2, cc2, rfl, _, _⟩ := ints_shape hi2
      unfold rtV at hvv
      subst hvv
      clear hv hi2 HPA
      have hszw := HB.out.size
      have hs6 := H6.out.lt
      go_upto_region 6 with (first
        | (refine Agg.allocRow 26 #[.int .i64 0, .int .u64 0, .slice none 0 0, .int .i64 0] rfl rfl (by kernel_rfl) ?_; simp only [Act.put, List.setIfInBounds_toArray, List.set_cons_succ, List.set_cons_zero])
        | (refine Agg.gStoreNew 4 [.int .i64 r2.slot, .int .u64 (r2.stamp : Int), .slice x2 r2.pages.length cc2, .int .i64 r2.bytes] rfl rfl rfl rfl rfl rfl (by decide +kernel) rfl rfl (by simp [Value.oneCell']) ?_; simp only [Act.put]))
      refine Agg.wp_at fun w7 hw7 => ?_
      have hb : Below w6.heap.size w6 w7 := by rw [hw7.out]; repeat (first | exact Below.refl _ _ | refine Agg.bel_drew ?_ | refine Agg.bel_alloc ?_ _)
      replace HB := Lib.hid (HB.out.trans (hb.mono HB.out.size))
      replace HD := Lib.hid (HD.out.keep hb)
      replace H2 := Lib.hid (H2.out.keep hb)
      replace H4 := Lib.hid (H4.out.keep hb)
      replace H6 := Lib.hid (H6.out.keep hb)
      replace HV2 := Lib.hid (HV2.out.keep hb)
      replace HVO := Lib.hid (HVO.out.keep hb)
      clear hb
      have H11 : Hid (Blk w7 w6.heap.size 26 [.int .i64 r2.slot, .int .u64 (r2.stamp : Int), .slice x2 r2.pages.length cc2, .int .i64 r2.bytes]) := by show Blk _ _ _ _; rw [hw7.out]; exact Blk.new w6 26 #[.int .i64 r2.slot, .int .u64 (r2.stamp : Int), .slice x2 r2.pages.length cc2, .int .i64 r2.bytes]
      clear hw7
      obtain ⟨g11, hg11⟩ : ∃ g, w6.heap.size = g := ⟨_, rfl⟩
      have hsg11 : w.heap.size + 1 < g11 := by rw [← hg11]; omega
      rw [hg11] at H11 ⊢
      clear hg11 hszw hs6
      by_cases ho2 : o2 = none
      · obtain rfl : c2 = 330 := by rw [← HC2.out, ho2]; rfl
        refine Agg.chainR 14 (by kernel_rfl) (by kernel_rfl) ?_
        simp only [List.take_succ_cons, List.take_zero, List.drop_succ_cons, List.drop_zero]
        refine Agg.chMove rfl rfl rfl rfl ?_
        refine Agg.chNe true (by decide) rfl rfl rfl rfl rfl ?_
        refine Agg.chMove rfl rfl rfl rfl ?_
        refine Agg.chSkip rfl rfl ?_
        refine Agg.chSkip rfl rfl ?_
        refine Agg.chSkip rfl rfl ?_
        refine Agg.chSkip rfl rfl ?_
        refine Agg.chPick rfl rfl rfl rfl rfl ?_
        refine Agg.chMove rfl rfl rfl rfl ?_
        refine Agg.chSkip rfl rfl ?_
        refine Agg.chSkip rfl rfl ?_
        refine Agg.chSkip rfl rfl ?_
        refine Agg.chSkip rfl rfl ?_
        refine Agg.chPick rfl rfl rfl rfl rfl ?_
        refine Agg.chEnd ?_
        intro vs w8 hb _
        refine Agg.wpNil ?_
        simp only [List.reverse, List.reverseAux, Agg.fill, List.set_cons_succ, List.set_cons_zero]
        replace HB := Lib.hid (HB.out.trans (hb.mono HB.out.size))
        replace HD := Lib.hid (HD.out.keep hb)
        replace H2 := Lib.hid (H2.out.keep hb)
        replace H4 := Lib.hid (H4.out.keep hb)
        replace H6 := Lib.hid (H6.out.keep hb)
        replace HV2 := Lib.hid (HV2.out.keep hb)
        replace HVO := Lib.hid (HVO.out.keep hb)
        replace H11 := Lib.hid (H11.out.keep hb)
        clear hb
        obtain rfl : o = none := by rw [← HPF.out, ho2]; rfl
        obtain rfl : ec = 331 := by rw [← HEC.out]; rfl
        have h4 := H4.out
        have hsz := HB.out.size
        go_wp2_with (first
          | (refine Agg.gStoreB 4 [.int .i64 0, .int .u64 0, .slice none 0 0, .int .i64 0] h4 rfl rfl rfl rfl rfl (by decide +kernel) rfl rfl (by simp [Value.oneCell']) (fun w14 hb14 hg14 => ?_)))
        refine bodyPost_ret (results_row2 (m := 4) rfl hb14 rfl (by decide +kernel) rfl) rfl ⟨_, rfl, rt0_o _ _, HB.out.trans (grown_below hg14 hsz (fun j hj => by cases hj; omega))⟩
      · obtain ⟨r, hor⟩ := Option.ne_none_iff_exists'.1 ho2
        obtain rfl : c2 = 0 := by rw [← HC2.out, hor]; rfl
        obtain rfl : r = r2 := by rw [← HR2.out, hor]; rfl
        obtain ⟨hright, hblk⟩ := HSM.out r hor
        have HRI := Lib.hid hright
        have hfl := HPF.out
        rw [hor] at hfl
        obtain ⟨q, hq⟩ : ∃ q, ofB d.pages.length r = q := ⟨_, rfl⟩
        have HOF := Lib.hid (fun W h1 h2 => of_any' d (.agg #[.slice px d.pages.length pc, .slice cx d.cache.length cc, .int .i64 d.fuse, .bool d.off]) r (.agg #[.int .i64 r.slot, .int .u64 (r.stamp : Int), .slice x2 r.pages.length cc2, .int .i64 r.bytes]) W h1 h2 q hq)
        have HFL : Hid ((if q = true then some r else none) = o) := Lib.hid (by rw [← hfl, ← hq]; rfl)
        have HBL := Lib.hid (fun W h => block_any r (.agg #[.int .i64 r.slot, .int .u64 (r.stamp : Int), .slice x2 r.pages.length cc2, .int .i64 r.bytes]) W h hright)
        rw [hblk] at HBL
        clear hfl hq hblk hright hor ho2
        cases q
        · refine Agg.chainR 14 (by kernel_rfl) (by kernel_rfl) ?_
          simp only [List.take_succ_cons, List.take_zero, List.drop_succ_cons, List.drop_zero]
          refine Agg.chMove rfl rfl rfl rfl ?_
          refine Agg.chNe false (by decide) rfl rfl rfl rfl rfl ?_
          refine Agg.chMove rfl rfl rfl rfl ?_
          refine Agg.chRowB 4 H2.out rfl (by decide +kernel) rfl rfl rfl rfl ?_
          refine Agg.chRowB 4 H11.out rfl (by decide +kernel) rfl rfl rfl rfl ?_
          refine Agg.chCall Try.func41 rfl (by kernel_rfl) rfl rfl rfl rfl (fun W hb => HOF.out W (HD.out.keep hb) (HV2.out.keep hb)) ?_
          refine Agg.chNot rfl rfl rfl rfl ?_
          refine Agg.chPick rfl rfl rfl rfl rfl ?_
          refine Agg.chMove rfl rfl rfl rfl ?_
          refine Agg.chSkip rfl rfl ?_
          refine Agg.chSkip rfl rfl ?_
          refine Agg.chSkip rfl rfl ?_
          refine Agg.chSkip rfl rfl ?_
          refine Agg.chPick rfl rfl rfl rfl rfl ?_
          refine Agg.chEnd ?_
          intro vs w9 hb _
          refine Agg.wpNil ?_
          simp only [List.reverse, List.reverseAux, Agg.fill, List.set_cons_succ, List.set_cons_zero]
          replace HB := Lib.hid (HB.out.trans (hb.mono HB.out.size))
          replace HD := Lib.hid (HD.out.keep hb)
          replace H2 := Lib.hid (H2.out.keep hb)
          replace H4 := Lib.hid (H4.out.keep hb)
          replace H6 := Lib.hid (H6.out.keep hb)
          replace HV2 := Lib.hid (HV2.out.keep hb)
          replace HVO := Lib.hid (HVO.out.keep hb)
          replace H11 := Lib.hid (H11.out.keep hb)
          clear hb
          obtain rfl : o = none := by rw [← HFL.out]; rfl
          obtain rfl : ec = 331 := by rw [← HEC.out]; rfl
          have h4 := H4.out
          have hsz := HB.out.size
          go_wp2_with (first
            | (refine Agg.gStoreB 4 [.int .i64 0, .int .u64 0, .slice none 0 0, .int .i64 0] h4 rfl rfl rfl rfl rfl (by decide +kernel) rfl rfl (by simp [Value.oneCell']) (fun w14 hb14 hg14 => ?_)))
          refine bodyPost_ret (results_row2 (m := 4) rfl hb14 rfl (by decide +kernel) rfl) rfl ⟨_, rfl, rt0_o _ _, HB.out.trans (grown_below hg14 hsz (fun j hj => by cases hj; omega))⟩
        · have hso : o = some r := by rw [← HFL.out]; rfl
          subst hso
          obtain rfl : ec = 0 := by rw [← HEC.out]; rfl
          refine Agg.chainR 14 (by kernel_rfl) (by kernel_rfl) ?_
          simp only [List.take_succ_cons, List.take_zero, List.drop_succ_cons, List.drop_zero]
          refine Agg.chMove rfl rfl rfl rfl ?_
          refine Agg.chNe false (by decide) rfl rfl rfl rfl rfl ?_
          refine Agg.chMove rfl rfl rfl rfl ?_
          refine Agg.chRowB 4 H2.out rfl (by decide +kernel) rfl rfl rfl rfl ?_
          refine Agg.chRowB 4 H11.out rfl (by decide +kernel) rfl rfl rfl rfl ?_
          refine Agg.chCall Try.func41 rfl (by kernel_rfl) rfl rfl rfl rfl (fun W hb => HOF.out W (HD.out.keep hb) (HV2.out.keep hb)) ?_
          refine Agg.chNot rfl rfl rfl rfl ?_
          refine Agg.chPick rfl rfl rfl rfl rfl ?_
          refine Agg.chMove rfl rfl rfl rfl ?_
          refine Agg.chRowB 4 H11.out rfl (by decide +kernel) rfl rfl rfl rfl ?_
          refine Agg.chCall Try.func42 rfl (by kernel_rfl) rfl rfl rfl rfl (fun W hb => HBL.out W (HV2.out.keep hb)) ?_
          refine Agg.chRowB 132 H6.out (bok_cells HBK.out) (by decide +kernel) rfl rfl rfl rfl ?_
          refine Agg.chBin (v := .bool false) rfl rfl rfl rfl rfl (fun w => flatBlk.gd .neq _ _ _ _ w) (fun w => blk_neq bl bl HBK.out HBK.out true (by simp) w) ?_
          refine Agg.chPick rfl rfl rfl rfl rfl ?_
          refine Agg.chEnd ?_
          intro vs w10 hb _
          refine Agg.wpNil ?_
          simp only [List.reverse, List.reverseAux, Agg.fill, List.set_cons_succ, List.set_cons_zero]
          replace HB := Lib.hid (HB.out.trans (hb.mono HB.out.size))
          replace HD := Lib.hid (HD.out.keep hb)
          replace H2 := Lib.hid (H2.out.keep hb)
          replace H4 := Lib.hid (H4.out.keep hb)
          replace H6 := Lib.hid (H6.out.keep hb)
          replace HV2 := Lib.hid (HV2.out.keep hb)
          replace HVO := Lib.hid (HVO.out.keep hb)
          replace H11 := Lib.hid (H11.out.keep hb)
          clear hb
          have h4 := H4.out
          have h11 := H11.out
          have hsz := HB.out.size
          go_wp2_with (first
            | (refine Agg.gLoadB 4 h11 rfl rfl rfl rfl (by decide +kernel) ?_; simp only [Act.put, List.setIfInBounds_toArray, List.set_cons_succ, List.set_cons_zero])
            | (refine Agg.gStoreB 4 [.int .i64 r.slot, .int .u64 (r.stamp : Int), .slice x2 r.pages.length cc2, .int .i64 r.bytes] h4 rfl rfl rfl rfl rfl (by decide +kernel) rfl rfl (by simp [Value.oneCell']) (fun w14 hb14 hg14 => ?_)))
          refine bodyPost_ret (results_row2 (m := 4) rfl hb14 rfl (by decide +kernel) rfl) rfl ⟨_, rfl, ?_, HB.out.trans (grown_below hg14 hsz (fun j hj => by cases hj; omega))⟩
          exact RtO.far HVO.out h4 (by decide) hg14
    · skip
      obtain rfl : o = none := HI1.out (.inr hk)
      obtain rfl : ec = 331 := by rw [← HEC.out]; rfl
      have h4 := H4.out
      have hsz := HB.out.size
      have hne : (k != 1) = true := by simpa using hk
      have c8 := H8.out.cell 0
      simp only [List.getElem?_cons_zero] at c8
      go_wp2_with (first
        | (refine Agg.gStoreB 4 [.int .i64 0, .int .u64 0, .slice none 0 0, .int .i64 0] h4 rfl rfl rfl rfl rfl (by decide +kernel) rfl rfl (by simp [Value.oneCell']) (fun w14 hb14 hg14 => ?_)))
      refine bodyPost_ret (results_row2 (m := 4) rfl hb14 rfl (by decide +kernel) rfl) rfl ⟨_, rfl, rt0_o _ _, HB.out.trans (grown_below hg14 hsz (fun j hj => by cases hj; omega))⟩
  · skip
    obtain rfl : o = none := HI1.out (.inl he)
    obtain rfl : ec = 331 := by rw [← HEC.out]; rfl
    have h4 := H4.out
    have hsz := HB.out.size
    have hne : (er != 0) = true := by simpa using he
    go_wp2_with (first
      | (refine Agg.gStoreB 4 [.int .i64 0, .int .u64 0, .slice none 0 0, .int .i64 0] h4 rfl rfl rfl rfl rfl (by decide +kernel) rfl rfl (by simp [Value.oneCell']) (fun w14 hb14 hg14 => ?_)))
    refine bodyPost_ret (results_row2 (m := 4) rfl hb14 rfl (by decide +kernel) rfl) rfl ⟨_, rfl, rt0_o _ _, HB.out.trans (grown_below hg14 hsz (fun j hj => by cases hj; omega))⟩
end Go.Proofs.Ytjnnnnolikbjcaa
end
section
/-
  RANGE OVER A FUNCTION: an iterator whose values lie in memory. Over any program.
-/
namespace Agg
open Go Go.RowKit
/-- an iterator that tells a list, each element by values of which no more is known than Enc -/
def IterR {α : Type} (P : Program) (g : Nat) (lb : Array Value) (Enc : World → World → α → Array Value → Prop) (Ab Kp : World → World → Prop) (xs : List α) (Ok : World → Prop) : Prop :=
  ∀ (l : Nat) (J Jx : Nat → World → Prop) (W : World), Ok W → (∀ k A B, J k A → Ab A B → J k B) → (∀ k A B, Jx k A → Ab A B → Jx k B) →
    (∀ (k : Nat) (hk : k < xs.length) (A W1 : World) (vs : Array Value), J k A → Ab A W1 → Enc A W1 xs[k] vs → YieldAt Fence.wide 1 P l vs W1 fun e W' =>
      (e = .returned (.bool true) ∧ J (k + 1) W' ∧ Kp W1 W') ∨ (e = .returned (.bool false) ∧ Jx (k + 1) W')) →
    J 0 W → Calls P g (#[.func (.yield l) #[] #[]] ++ lb) W fun e W' => (∃ v, e = .returned v) ∧ (J xs.length W' ∨ ∃ k, k ≤ xs.length ∧ Jx k W')
theorem range_iterR {α : Type} {P : Program} {g : Operand} {ps : Array Tmp} {assign body : Code} {Q : Exit → Act → World → Prop} {a : Act} {w : World} {gf : Nat} {lb : Array Value} (hg : a.eval g = .func (.func gf) #[] lb)
    (eg : ∀ args w, (callFunc gf args).run P w = .ok (.enter gf args) w) {Enc : World → World → α → Array Value → Prop} {Ab Kp : World → World → Prop} {xs : List α} {Ok : World → Prop} (hit : IterR P gf lb Enc Ab Kp xs Ok)
    (hok : ∀ W, Below w.heap.size w W → Ok W) (hAb : ∀ A B, Ab A B → ∃ row, A.grownBy B row ∧ ∀ r, row = some r → r < w.heap.size)
    (hKt : ∀ A B C, Kp A B → Kp B C → Kp A C) (hKb : ∀ A B, Turn w.heap.size A B → Kp A B) (hps : ∀ A W x vs, Enc A W x vs → vs.size = ps.size)
    (I : Nat → World → Prop) (Ix : Code → Nat → World → Prop) (hI : ∀ k A B, I k A → Turn w.heap.size A B → I k B) (hIx : ∀ c k A B, Ix c k A → Turn w.heap.size A B → Ix c k B)
    (hIA : ∀ k A B, I k A → Ab A B → I k B) (hIxA : ∀ c k A B, Ix c k A → Ab A B → Ix c k B) (h0 : ∀ W, Below w.heap.size w W → I 0 W)
    (hround : ∀ (l k : Nat) (hk : k < xs.length) (A W : World) (vs : Array Value), w.heap.size ≤ A.heap.size → I k A → Ab A W → Enc A W xs[k] vs → assign.wpIn (Fence.wide.inRound l) 1 P
      (Exit.then (fun a₁ W₁ => KeepsFrom w.heap.size W W₁ ∧ Kp W W₁ ∧ ∀ W₂, Turn w.heap.size W₁ W₂ → body.wpIn (Fence.wide.inRound l) 1 P (roundEnd w.heap.size Kp I Ix (k + 1) W₂) a₁ W₂) (fun _ _ _ => False))
      { tmps := (ps.zip vs).foldl (fun t (p, v) => t.setIfInBounds p v) a.tmps, defers := [] } W)
    (hdone : ∀ (D : Nat) (W : World), w.heap.size ≤ D → I xs.length W → W.heap[D]? = some (.deferred (some [])) → Q .normal { a with defers := { target := .collected D, args := #[] } :: a.defers } W)
    (hstop : ∀ (D : Nat) (c : Code) (k : Nat) (W : World), w.heap.size ≤ D → k ≤ xs.length → Ix c k W → W.heap[D]? = some (.deferred (some [])) → c.wp P Q { a with defers := { target := .collected D, args := #[] } :: a.defers } W) :
    (Code.rangeFunc g ps assign body).wp P Q a w := by
  refine (wpIn_wide (n := 3)).1 (wpIn_rangeFunc ?_)
  intro fn hfn
  obtain ⟨rec, hrec⟩ : ∃ rec : LoopState → Option Code → Loop, rec = fun st pe => { state := st, pending := pe, fn, tmps := a.tmps, params := ps, assign, body, defers := w.heap.size } := ⟨_, rfl⟩
  obtain ⟨W1, hW1⟩ : ∃ W1, (w.alloc (.deferred (some []))).alloc (.loop (rec .ready none)) = W1 := ⟨_, rfl⟩
  have hL1 : W1.heap[w.heap.size + 1]? = some (.loop (rec .ready none)) := by
    rw [← hW1]; have := World.alloc_heap_new (w.alloc (.deferred (some []))) (.loop (rec .ready none)); rwa [World.size_alloc] at this
  have hK1 : W1.heap[w.heap.size]? = some (.deferred (some [])) := by
    rw [← hW1]; exact (Below.heap_alloc _ _ _ (by simp)).trans (World.alloc_heap_new w _)
  have hb1 : Below w.heap.size w W1 := by
    rw [← hW1]; exact ((Below.refl _ w).alloc (Nat.le_refl _) _).alloc (by simp) _
  have put : ∀ {W : World} {l : Nat} {o : Obj} (o' : Obj), w.heap.size ≤ l → W.heap[l]? = some o → o.isCells = false → Turn w.heap.size W (W.putObj l o') := fun o' h1 h2 h3 => ⟨_, _, o', rfl, h1, h2, h3⟩
  refine ⟨w.heap.size + 1, [{ target := .collected w.heap.size, args := #[] }], W1, { target := .fn (.func gf) lb, args := #[.func (.yield (w.heap.size + 1)) #[] #[]] }, W1, gf,
    #[.func (.yield (w.heap.size + 1)) #[] #[]] ++ lb, W1, ?_, ?_, fun _ _ => trivial, ?_, fun e => (by cases e), ?_⟩
  · rw [← hW1, hrec]; exact run_enterLoop_outer _ _ _ _ _
  · simp only [resolve, hg]
    simp [go_sem]
  · simp [invoke, go_sem, eg]
  · have keep : ∀ {A B : World} {l : Nat} {o : Obj}, Ab A B → w.heap.size ≤ l → A.heap[l]? = some o → B.heap[l]? = some o := fun {A B l o} hab hl ho => by
      obtain ⟨row, hgr, hlt⟩ := hAb A B hab
      rw [hgr.block l (Array.getElem?_eq_some_iff.1 ho).1 (fun e => by have := hlt l e.symm; omega)]
      exact ho
    refine (callsIn_wide (n := 3 - 1)).2 (Calls.mono (hit (w.heap.size + 1)
      (fun k W => (I k W ∧ w.heap.size ≤ W.heap.size) ∧ W.heap[w.heap.size + 1]? = some (.loop (rec .ready none)) ∧ W.heap[w.heap.size]? = some (.deferred (some [])))
      (fun k W => ∃ c, Ix c k W ∧ W.heap[w.heap.size + 1]? = some (.loop (rec .done (some c))) ∧ W.heap[w.heap.size]? = some (.deferred (some [])))
      W1 (hok W1 hb1)
      (fun k A B hs hab => ⟨⟨hIA k A B hs.1.1 hab, by obtain ⟨row, hgr, _⟩ := hAb A B hab; exact Nat.le_trans hs.1.2 hgr.size⟩, keep hab (by omega) hs.2.1, keep hab (Nat.le_refl _) hs.2.2⟩)
      (fun k A B hs hab => by
        obtain ⟨c, hc, hl, hk⟩ := hs
        exact ⟨c, hIxA c k A B hc hab, keep hab (by omega) hl, keep hab (Nat.le_refl _) hk⟩)
      ?_ ⟨⟨h0 W1 hb1, hb1.size⟩, hL1, hK1⟩) ?_)
    · rintro k hlen A W vs ⟨⟨hi, hsz⟩, hl, hk⟩ hab henc
      replace hl := keep hab (by omega) hl
      replace hk := keep hab (Nat.le_refl _) hk
      have hlt : w.heap.size + 1 < W.heap.size := (Array.getElem?_eq_some_iff.1 hl).1
      have hy := run_yield (P := P) (args := vs) hl (by rw [hrec]; exact hps _ _ _ _ henc)
      rw [hrec] at hy
      refine ⟨fn, _, assign, body, hy, roundIn_of_wpIn hfn (wpIn_mono (hround (w.heap.size + 1) k hlen A W vs hsz hi hab henc) ?_)⟩
      clear hy
      rintro e a' Wa hA
      cases e with
      | normal =>
        obtain ⟨hkfa, hkpa, hax⟩ := hA
        replace hl := hkfa.same _ _ (by omega) hl rfl
        replace hk := hkfa.same _ _ (Nat.le_refl _) hk rfl
        replace hlt : w.heap.size + 1 < Wa.heap.size := (Array.getElem?_eq_some_iff.1 hl).1
        refine ⟨_, run_beginRound hl (by rw [hrec]), ?_⟩
        have hl2 : (Wa.putObj (w.heap.size + 1) (.loop { rec .ready none with state := .busy })).heap[w.heap.size + 1]? = some (.loop { rec .ready none with state := .busy }) := World.putObj_heap_same hlt
        have hk2 : (Wa.putObj (w.heap.size + 1) (.loop { rec .ready none with state := .busy })).heap[w.heap.size]? = some (.deferred (some [])) := (World.putObj_heap_other (by omega)).trans hk
        have hT : Turn w.heap.size Wa (Wa.putObj (w.heap.size + 1) (.loop { rec .ready none with state := .busy })) := put _ (by omega) hl rfl
        refine wpIn_mono (hax _ hT) ?_
        have fin : ∀ (jump : Option Code) (W3 : World), KeepsFrom w.heap.size (Wa.putObj (w.heap.size + 1) (.loop { rec .ready none with state := .busy })) W3 →
            (Instr.endRound (w.heap.size + 1) jump).run P W3 = .ok (.bool jump.isNone) (W3.putObj (w.heap.size + 1) (.loop (rec (if jump.isNone then .ready else .done) jump))) ∧
            W3.heap[w.heap.size + 1]? = some (.loop { rec .ready none with state := .busy }) ∧
            (W3.putObj (w.heap.size + 1) (.loop (rec (if jump.isNone then .ready else .done) jump))).heap[w.heap.size + 1]? = some (.loop (rec (if jump.isNone then .ready else .done) jump)) ∧
            (W3.putObj (w.heap.size + 1) (.loop (rec (if jump.isNone then .ready else .done) jump))).heap[w.heap.size]? = some (.deferred (some [])) := fun jump W3 hk3 => by
          have hl3 := hk3.same _ _ (by omega) hl2 rfl
          have := run_endRound (P := P) jump hl3
          rw [hrec] at this ⊢
          exact ⟨this, by rw [hrec] at hl3; exact hl3, World.putObj_heap_same (Array.getElem?_eq_some_iff.1 hl3).1, (World.putObj_heap_other (by omega)).trans (hk3.same _ _ (Nat.le_refl _) hk2 rfl)⟩
        rintro e a3 W3 hp
        cases e with
        | normal =>
          obtain ⟨hk3, hkp3, hi3⟩ := hp
          obtain ⟨hr, hl3, hl4, hk4⟩ := fin none W3 hk3
          have hT3 : Turn w.heap.size W3 _ := put (.loop (rec .ready none)) (by omega) hl3 rfl
          exact ⟨_, _, hr, .inl ⟨rfl, ⟨⟨hI _ _ _ hi3 hT3, by rw [World.putObj_size]; have := hk3.size; rw [World.putObj_size] at this; omega⟩, hl4, hk4⟩, hKt _ _ _ hkpa (hKt _ _ _ (hKt _ _ _ (hKb _ _ hT) hkp3) (hKb _ _ hT3))⟩⟩
        | ret =>
          obtain ⟨hk3, hi3⟩ := hp
          obtain ⟨hr, hl3, hl4, hk4⟩ := fin (some .ret) W3 hk3
          exact ⟨_, _, hr, .inr ⟨rfl, .ret, hIx _ _ _ _ hi3 (put _ (by omega) hl3 rfl), hl4, hk4⟩⟩
        | exit id =>
          obtain ⟨hk3, hi3⟩ := hp
          obtain ⟨hr, hl3, hl4, hk4⟩ := fin (some (.exit id)) W3 hk3
          exact ⟨_, _, hr, .inr ⟨rfl, .exit id, hIx _ _ _ _ hi3 (put _ (by omega) hl3 rfl), hl4, hk4⟩⟩
        | goto t =>
          obtain ⟨hk3, hi3⟩ := hp
          obtain ⟨hr, hl3, hl4, hk4⟩ := fin (some (.goto t)) W3 hk3
          exact ⟨_, _, hr, .inr ⟨rfl, .goto t, hIx _ _ _ _ hi3 (put _ (by omega) hl3 rfl), hl4, hk4⟩⟩
        | panic ch => exact hp.elim
        | outgrown => exact hp.elim
      | _ => exact hA.elim
    · rintro e W2 ⟨⟨v, rfl⟩, (⟨⟨hi, _⟩, hl, hk⟩ | ⟨k, hk2, c, hi, hl, hk⟩)⟩
      · exact ⟨none, _, by have := run_endLoop (P := P) hl (by rw [hrec]; simp); rw [hrec] at this; exact this, hdone _ _ (Nat.le_refl _) (hI _ _ _ hi (put _ (by omega) hl rfl)) ((World.putObj_heap_other (by omega)).trans hk)⟩
      · exact ⟨some c, _, by have := run_endLoop (P := P) hl (by rw [hrec]; simp); rw [hrec] at this; exact this, wpIn_wide.2 (hstop _ c k _ (Nat.le_refl _) hk2 (hIx _ _ _ _ hi (put _ (by omega) hl rfl)) ((World.putObj_heap_other (by omega)).trans hk))⟩
/-- a world that is another one as far as that went -/
def Agr (n : Nat) (A B : World) : Prop := ∀ k, k < n → B.heap[k]? = A.heap[k]?
theorem Agr.trans {n : Nat} {A B C : World} (h1 : Agr n A B) (h2 : Agr n B C) : Agr n A C := fun k hk => (h2 k hk).trans (h1 k hk)
theorem Agr.refl (n : Nat) (A : World) : Agr n A A := fun _ _ => rfl
theorem Agr.mono {n m : Nat} {A B : World} (h : Agr n A B) (hm : m ≤ n) : Agr m A B := fun k hk => h k (Nat.lt_of_lt_of_le hk hm)
theorem agr_below {n : Nat} {A B : World} (h : Below n A B) : Agr n A B := fun k hk => h.block k hk
theorem SlR.agr {w w' : World} {v : Value} {sz n : Nat} {cs : List Value} (h : SlR w v sz n cs) (ha : Agr w.heap.size w w') : SlR w' v sz n cs := by
  refine ⟨h.1, ?_⟩
  rcases h.2 with h2 | ⟨x, cap, h3, h4, h5, h6⟩
  · exact .inl h2
  · refine .inr ⟨x, cap, h3, h4, h5, fun i u hu => ?_⟩
    have h7 := h6 i u hu
    have hlt := block_lt_of_cell h7
    rw [← h7]
    unfold World.cell?
    rw [ha _ hlt]
end Agg
end
