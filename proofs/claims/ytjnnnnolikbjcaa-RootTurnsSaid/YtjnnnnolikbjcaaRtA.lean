/-
  ROOTS: the document's Of; the law's why.
-/
import Derived.Test.YtjnnnnolikbjcaaRtN5
import Derived.Test.YtjnnnnolikbjcaaRtI
section
namespace Go.Proofs.Ytjnnnnolikbjcaa
open Go.ChangeShapes Go.WideShapes Go.ChangeAt Go.RowKit Agg Pg Dv
attribute [local go_sem] Oper.semAt_some

set_option maxHeartbeats 8000000 in
set_option maxRecDepth 100000 in
theorem dOf_any (d : Dev) (dv : Value) (r : Rt) (v : Value) (w : World) (hd : DevR w dv d) (hv : RtR w v r) (q : Bool) (hq : ofB d.pages.length r = q) :
    Calls Try.prog 32 #[dv, v] w fun e w' => e = .returned (.bool q) ∧ Below w.heap.size w w' := by
  obtain ⟨px, pc, cx, cc, rfl⟩ := hd.shape
  obtain ⟨sl, rfl, hs⟩ := hv.ex
  obtain ⟨x, c, rfl, hc1, hc2⟩ := ints_shape hs
  unfold maxLen at hc2
  obtain ⟨_, _, _, _, rfl2, hkp, _⟩ := hd
  injection rfl2 with e1
  have hlen : d.pages.length ≤ 9223372036854775807 := by
    obtain ⟨_, _, _, h1, h2⟩ := SlR.shape hkp
    unfold maxLen at h2; omega
  have HS := Lib.hid hs
  obtain ⟨s, st, L, by'⟩ := r
  have HQ : Hid (L.all (fun p => decide (p < (d.pages.length : Int))) = q) := Lib.hid hq
  unfold rtV
  dsimp only at HS hc1 hc2 ⊢
  obtain ⟨np, hnp⟩ : ∃ k, d.pages.length = k := ⟨_, rfl⟩
  obtain ⟨nc, hnc⟩ : ∃ k, d.cache.length = k := ⟨_, rfl⟩
  obtain ⟨fu, hfu⟩ : ∃ k, d.fuse = k := ⟨_, rfl⟩
  obtain ⟨of', hof⟩ : ∃ k, d.off = k := ⟨_, rfl⟩
  obtain ⟨n, hn⟩ : ∃ n, L.length = n := ⟨_, rfl⟩
  have HN := Lib.hid hn
  rw [hnp] at HQ hlen
  rw [hn] at HS hc1
  rw [hnp, hnc, hfu, hof, hn]
  clear hkp e1 hv hs hq hnp hnc hfu hof hn
  have HS0 := HS
  have HB := Lib.hid (Below.refl w.heap.size w)
  go_enter Try.func32, Try.ntmps32
  go_upto_region 1 with (fail)
  refine Agg.wp_at fun w1 hw1 => ?_
  have hb : Below w.heap.size w w1 := by rw [hw1.out]; repeat (first | exact Below.refl _ _ | refine Agg.bel_drew ?_ | refine Agg.bel_alloc ?_ _)
  replace HB := Lib.hid (HB.out.trans (hb.mono HB.out.size))
  replace HS := Lib.hid (HS.out.keep hb)
  clear hb
  have H2 : Hid (Blk w1 w.heap.size 30 [.slice px np pc, .slice cx nc cc, .int .i64 fu, .bool of']) := by show Blk _ _ _ _; rw [hw1.out]; exact (Blk.new w 30 #[.slice px np pc, .slice cx nc cc, .int .i64 fu, .bool of']).al _
  have H3 : Hid (Blk w1 (w.heap.size + 1) 26 [.int .i64 s, .int .u64 (st : Int), .slice x n c, .int .i64 by']) := by show Blk _ _ _ _; rw [hw1.out]; exact Blk.newAt (w.alloc _) 26 #[.int .i64 s, .int .u64 (st : Int), .slice x n c, .int .i64 by'] _ (by simp)
  clear hw1
  go_wp2_with fail
  obtain ⟨wY, hwY⟩ : ∃ x, x = w1 := ⟨_, rfl⟩
  subst hwY
  have HBY := HB
  have H2Y := H2
  have H3Y := H3
  clear HB H2 H3 HS
  go_loopw [5] (fun ix wr => ∃ k : Nat, k ≤ n ∧ ix = .int .i64 k ∧ (L.take k).all (fun p => decide (p < (np : Int))) = true ∧ Below wY.heap.size wY wr) (fun ix _ => n - (intOf ix).toNat)
  case atStart => exact ⟨0, by omega, rfl, rfl, Below.refl _ _⟩
  case round =>
    obtain ⟨k, hk, rfl, hall, hb⟩ := hrel
    have HAL := Lib.hid hall
    have HBB := Lib.hid hb
    have HB := Lib.hid (HBY.out.trans (hb.mono HBY.out.size))
    have H2 := Lib.hid (H2Y.out.keep hb)
    have H3 := Lib.hid (H3Y.out.keep hb)
    have HS := Lib.hid (SlR.keep HS0.out HB.out)
    clear hb hall
    obtain ⟨wA, hwA⟩ : ∃ x, x = wr := ⟨_, rfl⟩
    subst hwA
    have c2 := H3.out.cell 2
    simp only [List.getElem?_cons_zero, List.getElem?_cons_succ] at c2
    by_cases hlt : k < n
    · obtain ⟨b, ob, cap', hve, _⟩ := SlR.pos HS.out (by decide) (by rw [HN.out]; omega)
      injection hve with q1 q2 q3
      subst q1
      clear q2 q3
      have hkL : k < L.length := by rw [HN.out]; exact hlt
      have hcell := ints_at (l := L) HS.out hkL
      have hst := List.take_succ_eq_append_getElem hkL
      have hmem : L[k] ∈ L := List.getElem_mem hkL
      obtain ⟨z, hz⟩ : ∃ y, L[k] = y := ⟨_, rfl⟩
      rw [hz] at hcell hst hmem
      have HC := Lib.hid hcell
      obtain ⟨t, ht⟩ : ∃ t, decide (z ≥ (np : Int)) = t := ⟨_, rfl⟩
      have HT := Lib.hid ht
      have HYES : Hid (t = false → (L.take (k + 1)).all (fun p => decide (p < (np : Int))) = true) := Lib.hid (fun h => by
        have h2 := of_decide_eq_false (ht.trans h)
        rw [hst, List.all_append, HAL.out]
        simp; omega)
      have HNO : Hid (t = true → q = false) := Lib.hid (fun h => by
        have h2 := of_decide_eq_true (ht.trans h)
        cases q with
        | false => rfl
        | true => have h3 := of_decide_eq_true (List.all_eq_true.1 HQ.out z hmem); omega)
      clear hz hcell hst hmem ht
      go_upto_region 4 with (fail)
      clear c2
      refine Agg.chainR 9 (by kernel_rfl) (by kernel_rfl) ?_
      simp only [List.take_succ_cons, List.take_zero, List.drop_succ_cons, List.drop_zero]
      refine Agg.chFA (by first | exact fo_Dev_2 | exact fo_Rt_2) rfl rfl rfl rfl ?_
      refine Agg.chLoadB H3.out (by decide +kernel) rfl rfl (by rfl) rfl rfl ?_
      refine Agg.chMove rfl rfl rfl rfl ?_
      refine Agg.chIA tiInt (by omega) (by omega) rfl rfl rfl rfl rfl ?_
      refine Agg.chLoad rfl rfl rfl rfl (by decide +kernel) (by simp only [Int.toNat_natCast, Nat.mul_one]; exact HC.out) ?_
      refine Agg.chFA (by first | exact fo_Dev_0 | exact fo_Rt_0) rfl rfl rfl rfl ?_
      refine Agg.chLoadB H2.out (by decide +kernel) rfl rfl (by rfl) rfl rfl ?_
      refine Agg.chLen Try.underlying22 rfl rfl rfl rfl ?_
      refine Agg.chGe (t) HT.out rfl rfl rfl rfl rfl ?_
      refine Agg.chEnd ?_
      intro vs w31 hb hf
      simp only [List.reverse, List.reverseAux, Agg.Facts] at hf
      obtain _ := hf
      simp only [List.reverse, List.reverseAux, Agg.fill, List.set_cons_succ, List.set_cons_zero]
      refine Agg.wpNil ?_
      have hbb := HBB.out.trans (hb.mono HBB.out.size)
      have hbw := HB.out.trans (hb.mono HB.out.size)
      clear hb
      cases t
      · have hy := HYES.out rfl
        have HY := Lib.hid hy
        clear hy
        go_wp2_with fail
        exact ⟨⟨k + 1, by omega, by go_num, HY.out, hbb⟩, by simp [intOf]; omega⟩
      · obtain rfl := HNO.out rfl
        clear hbb
        go_wp2_with fail
        go_ret
        exact ⟨rfl, hbw⟩
    · obtain rfl : k = n := by omega
      have h := HAL.out
      rw [List.take_of_length_le (by rw [HN.out]; omega)] at h
      obtain rfl : q = true := by rw [← HQ.out]; exact h
      clear h
      go_wp2_with fail
      go_ret
      exact ⟨rfl, HB.out⟩

set_option maxHeartbeats 8000000 in
set_option maxRecDepth 100000 in
theorem why_any (d : Dev) (dv : Value) (w : World) (hg : DGood d) (hd : DevR w dv d) (e1 : Int) (he : whyD d = e1) :
    Calls Try.prog 21 #[dv] w fun e w' => e = .returned (.int .i64 e1) ∧ Below w.heap.size w w' := by
  obtain ⟨px, pc, cx, cc, rfl⟩ := hd.shape
  have HCH := Lib.hid (fun W v h => check_R (w := W) (v := v) hg h)
  obtain ⟨q, hq⟩ : ∃ q, rightD d = q := ⟨_, rfl⟩
  rw [hq] at HCH
  obtain ⟨ec, hec⟩ : ∃ e : Int, (if q = true then (0 : Int) else 260) = e := ⟨_, rfl⟩
  rw [hec] at HCH
  have HEC := Lib.hid hec
  have HW : Hid ((if q = false then (260 : Int) else if d.off then 10 else 0) = e1) := Lib.hid (by rw [← he, ← hq]; rfl)
  have HD := Lib.hid hd
  obtain ⟨off, hoff⟩ : ∃ b, d.off = b := ⟨_, rfl⟩
  rw [hoff] at HW HD ⊢
  clear hd hg he hq hec hoff
  have HB := Lib.hid (Below.refl w.heap.size w)
  go_enter Try.func21, Try.ntmps21
  go_upto_region 1 with (fail)
  refine Agg.wp_at fun w1 hw1 => ?_
  have hb : Below w.heap.size w w1 := by rw [hw1.out]; repeat (first | exact Below.refl _ _ | refine Agg.bel_drew ?_ | refine Agg.bel_alloc ?_ _)
  replace HB := Lib.hid (HB.out.trans (hb.mono HB.out.size))
  replace HD := Lib.hid (HD.out.keep hb)
  clear hb
  have H1 : Hid (Blk w1 w.heap.size 30 [.slice px d.pages.length pc, .slice cx d.cache.length cc, .int .i64 d.fuse, .bool off]) := by show Blk _ _ _ _; rw [hw1.out]; exact Blk.new w 30 #[.slice px d.pages.length pc, .slice cx d.cache.length cc, .int .i64 d.fuse, .bool off]
  clear hw1
  have h1 := H1.out
  go_wp2_with (refine Agg.gLoadB 4 h1 rfl rfl rfl rfl (by decide +kernel) ?_; simp only [Act.put, List.setIfInBounds_toArray, List.set_cons_succ, List.set_cons_zero])
  clear h1
  refine (HCH.out w1 _ HD.out).mono ?_
  rintro e w2 ⟨rfl, hb⟩
  replace HB := Lib.hid (HB.out.trans (hb.mono HB.out.size))
  replace HD := Lib.hid (HD.out.keep hb)
  replace H1 := Lib.hid (H1.out.keep hb)
  clear hb
  go_upto_region 2 with (fail)
  rcases (show q = true ∨ q = false by cases q <;> simp) with rfl | rfl
  · obtain rfl : ec = 0 := by rw [← HEC.out]; rfl
    refine Agg.listR 7 (by kernel_rfl) ?_
    simp only [List.take_succ_cons, List.take_zero, List.drop_succ_cons, List.drop_zero]
    refine Agg.chMove rfl rfl rfl rfl ?_
    refine Agg.chNe false (by decide) rfl rfl rfl rfl rfl ?_
    refine Agg.chMove rfl rfl rfl rfl ?_
    refine Agg.chFA (by first | exact fo_Dev_3 | exact fo_Rt_3) rfl rfl rfl rfl ?_
    refine Agg.chLoadB H1.out (by decide +kernel) rfl rfl (by rfl) rfl rfl ?_
    refine Agg.chNot rfl rfl rfl rfl ?_
    refine Agg.chPick rfl rfl rfl rfl rfl ?_
    refine Agg.chEnd ?_
    intro vs w3 hb _
    show Exit.then _ _ Exit.normal _ _
    simp only [List.reverse, List.reverseAux, Agg.fill, List.set_cons_succ, List.set_cons_zero]
    replace HB := Lib.hid (HB.out.trans (hb.mono HB.out.size))
    replace HD := Lib.hid (HD.out.keep hb)
    replace H1 := Lib.hid (H1.out.keep hb)
    clear hb
    cases off
    · obtain rfl : e1 = 0 := by rw [← HW.out]; rfl
      go_wp2_with fail
      go_ret
      exact ⟨rfl, HB.out⟩
    · obtain rfl : e1 = 10 := by rw [← HW.out]; rfl
      go_wp2_with fail
      go_ret
      exact ⟨rfl, HB.out⟩
  · obtain rfl : ec = 260 := by rw [← HEC.out]; rfl
    obtain rfl : e1 = 260 := by rw [← HW.out]; rfl
    refine Agg.listR 7 (by kernel_rfl) ?_
    simp only [List.take_succ_cons, List.take_zero, List.drop_succ_cons, List.drop_zero]
    refine Agg.chMove rfl rfl rfl rfl ?_
    refine Agg.chNe true (by decide) rfl rfl rfl rfl rfl ?_
    refine Agg.chMove rfl rfl rfl rfl ?_
    refine Agg.chSkip rfl rfl ?_
    refine Agg.chSkip rfl rfl ?_
    refine Agg.chSkip rfl rfl ?_
    refine Agg.chPick rfl rfl rfl rfl rfl ?_
    refine Agg.chEnd ?_
    intro vs w4 hb _
    show Exit.then _ _ Exit.normal _ _
    simp only [List.reverse, List.reverseAux, Agg.fill, List.set_cons_succ, List.set_cons_zero]
    replace HB := Lib.hid (HB.out.trans (hb.mono HB.out.size))
    replace HD := Lib.hid (HD.out.keep hb)
    replace H1 := Lib.hid (H1.out.keep hb)
    clear hb
    go_wp2_with fail
    go_ret
    exact ⟨rfl, HB.out⟩
end Go.Proofs.Ytjnnnnolikbjcaa
end
section
/-
  THE LOG: the document's At.
-/
namespace Go.Proofs.Ytjnnnnolikbjcaa
open Go.ChangeShapes Go.WideShapes Go.ChangeAt Go.RowKit Agg Pg Dv
attribute [local go_sem] Oper.semAt_some

set_option maxHeartbeats 4000000 in
set_option maxRecDepth 100000 in
theorem rAt_any (P : List (List Sec)) (l : List (Int × List Sec)) (z : Int) (q : Bool) (x y : Option Addr) (cap cm : Nat) (p : Nat) (hpl : p < P.length) (w : World)
    (hd2 : l.length ≤ 1000000) (hp : Pgs w (.slice x P.length cap) P) (hv : Wrs w (.slice y l.length cm) l) (hP : ∀ b ∈ P, BOk b) (hC : ∀ x ∈ l, BOk x.2) :
    Calls Try.prog 53 #[.agg #[.slice x P.length cap, .slice y l.length cm, .int .i64 z, .bool q], .int .i64 (p : Int)] w fun e w' => e = .returned (.agg (blkC (saysP P l p)).toArray) ∧ Below w.heap.size w w' := by
  obtain ⟨b, o, cap', hve, _, hmx, _, _⟩ := SlR.pos hp (by decide) (by omega)
  simp only [Value.slice.injEq, true_and] at hve
  obtain ⟨rfl, rfl⟩ := hve
  unfold maxLen at hmx
  have HP := Lib.hid hp
  have HV := Lib.hid hv
  have HV0 := HV
  have HPB := Lib.hid hP
  have HCB := Lib.hid hC
  have HW : Hid (∀ x ∈ l, (wrC x).length = 133) := Lib.hid (fun x hx => wrC_length x (hC x hx))
  have HPL := Lib.hid hpl
  have hln : (l.length : Int) ≤ 1000000 := by omega
  have hpn : (p : Int) < P.length := by omega
  clear hp hv hP hC
  have HB := Lib.hid (Below.refl w.heap.size w)
  go_enter Try.func53, Try.ntmps53
  go_upto_region 1 with (refine Agg.allocRow 38 (blkC zeroB).toArray rfl rfl (by kernel_rfl) ?_; simp only [Act.put, List.setIfInBounds_toArray, List.set_cons_succ, List.set_cons_zero])
  refine Agg.wp_at fun w1 hw1 => ?_
  have hb : Below w.heap.size w w1 := by rw [hw1.out]; repeat (first | exact Below.refl _ _ | refine Agg.bel_drew ?_ | refine Agg.bel_alloc ?_ _)
  replace HB := Lib.hid (HB.out.trans (hb.mono HB.out.size))
  replace HP := Lib.hid (HP.out.keep hb)
  replace HV := Lib.hid (HV.out.keep hb)
  clear hb
  have H1 : Hid (Blk w1 w.heap.size 30 [.slice (some ⟨b, o, none⟩) P.length cap, .slice y l.length cm, .int .i64 z, .bool q]) := by show Blk _ _ _ _; rw [hw1.out]; exact (Blk.new w 30 #[.slice (some ⟨b, o, none⟩) P.length cap, .slice y l.length cm, .int .i64 z, .bool q]).al _
  have H2 : Hid (Blk w1 (w.heap.size + 1) 38 (blkC zeroB)) := by show Blk _ _ _ _; rw [hw1.out]; exact Blk.newAt (w.alloc _) 38 (blkC zeroB).toArray _ (by simp)
  clear hw1
  have hcs := flat_at blkC 132 (by decide) HP.out (fun b hb => bok_cells (HPB.out b hb)) hpl
  have hbo := HPB.out _ (List.getElem_mem hpl)
  have h132 := bok_cells hbo
  have h1 := blkC_one P[p]
  have HGP : Hid (P.getD p zeroB = P[p]) := Lib.hid (by rw [List.getD_eq_getElem?_getD, List.getElem?_eq_getElem hpl]; rfl)
  generalize P[p] = s at *
  have xH1_0 := H1.out.cell 0
  have xH1_1 := H1.out.cell 1
  have xH1_2 := H1.out.cell 2
  have xH1_3 := H1.out.cell 3
  have lH1 := H1.out.lt
  simp only [List.getElem?_cons_zero, List.getElem?_cons_succ] at xH1_0 xH1_1 xH1_2 xH1_3
  go_upto_region 2 with (first
    | (refine Agg.gLoad 132 (blkC s) rfl rfl rfl (by decide +kernel) h132 hcs ?_; simp only [Act.put, List.setIfInBounds_toArray, List.set_cons_succ, List.set_cons_zero])
    | (refine Agg.allocRow 38 (blkC zeroB).toArray rfl rfl (by kernel_rfl) ?_; simp only [Act.put, List.setIfInBounds_toArray, List.set_cons_succ, List.set_cons_zero])
    | (refine Agg.gStoreNew 132 (blkC s) rfl rfl rfl rfl rfl rfl (by decide +kernel) h132 zero132 h1 ?_; simp only [Act.put]))
  have HS := Lib.hid (Blk.new w1 38 (blkC s).toArray)
  have HB4 := Lib.hid (bel_alloc HB.out (.cells (blkC s).toArray 38))
  have H24 := Lib.hid (H2.out.al (.cells (blkC s).toArray 38))
  have H14 := Lib.hid (H1.out.al (.cells (blkC s).toArray 38))
  have HS2 : Hid (w.heap.size + 1 < w1.heap.size) := Lib.hid H2.out.lt
  obtain ⟨bs, hbs⟩ : ∃ b, w1.heap.size = b := ⟨_, rfl⟩
  rw [hbs] at HS HS2 ⊢
  refine Agg.wp_at fun w4 hw4 => ?_
  rw [← hw4.out] at HS HB4 H24 H14
  clear xH1_0 xH1_1 xH1_2 xH1_3 lH1
  clear hw4 hbs hcs h1 h132 HP HV H1 H2 HB
  have HB := HB4
  have HBO := Lib.hid hbo
  clear HB4 hbo
  go_wp2_with fail
  go_loopw [6] (fun i wr => ∃ r : Nat, r ≤ l.length ∧ i = .int .i64 r ∧ Below w.heap.size w wr ∧ Blk wr bs 38 (blkC (saysP P (l.take r) p)) ∧ Blk wr (w.heap.size + 1) 38 (blkC zeroB) ∧ Blk wr w.heap.size 30 [.slice (some ⟨b, o, none⟩) P.length cap, .slice y l.length cm, .int .i64 z, .bool q]) (fun i _ => l.length - (intOf i).toNat)
  case atStart => exact ⟨0, by omega, rfl, HB.out, by rw [List.take_zero, saysP_zero, Int.toNat_natCast, HGP.out]; exact HS.out, H24.out, H14.out⟩
  case round =>
    obtain ⟨r, hr, rfl, hb, hs, h2, h1⟩ := hrel
    replace HB := Lib.hid hb
    have HV := Lib.hid (SlR.keep HV0.out hb)
    replace HS := Lib.hid hs
    have H2 := Lib.hid h2
    have H1 := Lib.hid h1
    have HSO := Lib.hid (saysP_bok HPB.out (l := l.take r) (fun x hx => HCB.out x (List.mem_of_mem_take hx)) p)
    clear hb hs h2 h1 H24 H14
    have c1 := H1.out.cell 1
    simp only [List.getElem?_cons_zero, List.getElem?_cons_succ] at c1
    obtain ⟨wA, hwA⟩ : ∃ x, x = wr := ⟨_, rfl⟩
    subst hwA
    by_cases hlt : r < l.length
    · obtain ⟨b2, o2, cap2, hve, _, _, _, _⟩ := SlR.pos HV.out (by decide) (by omega)
      simp only [Value.slice.injEq, true_and] at hve
      obtain ⟨rfl, rfl⟩ := hve
      have hcs := flat_at wrC 133 (by decide) HV.out HW.out hlt
      have HBO2 := Lib.hid (HCB.out _ (List.getElem_mem hlt))
      have HST := Lib.hid (saysP_succ P l p r hlt)
      generalize l[r] = u at *
      generalize saysP P (l.take r) p = cur at *
      have e0 : wA.cell? ⟨b2, o2 + r * 133, none⟩ = some (.int .i64 u.1) := hcs 0 _ rfl
      by_cases hs : u.1 = p
      · have hsb : (u.1 == (p : Int)) = true := by simpa using hs
        have h132 := bok_cells HBO2.out
        have h132c := bok_cells HSO.out
        have HST2 : Hid (saysP P (l.take (r + 1)) p = u.2) := Lib.hid (by rw [HST.out, if_pos hs])
        have hc132 : ∀ i v, (blkC u.2)[i]? = some v → wA.cell? ⟨b2, o2 + r * 133 + 1 + i, none⟩ = some v := fun i v hi => by
          rw [show o2 + r * 133 + 1 + i = o2 + r * 133 + (i + 1) by omega]; exact hcs (i + 1) v hi
        have hsb2 := HS.out
        clear hs HST hcs
        go_wp2_with (first
          | (refine Agg.gLoad 132 (blkC u.2) rfl rfl rfl (by decide +kernel) h132 hc132 ?_; simp only [Act.put, List.setIfInBounds_toArray, List.set_cons_succ, List.set_cons_zero])
          | (refine Agg.gStoreB 132 (blkC u.2) hsb2 rfl rfl rfl rfl rfl (by decide +kernel) h132c h132 (blkC_one _) (fun w14 hb14 hg14 => ?_)))
        have h2c := H2.out.far' hg14 (by have := HS2.out; omega)
        have h1c := H1.out.far' hg14 (by have := HS2.out; omega)
        have hbc := HB.out.trans (grown_below hg14 HB.out.size (fun j hj => by cases hj; have := HS2.out; omega))
        go_wp2_with fail
        exact ⟨⟨r + 1, by omega, by go_num, hbc, by rw [HST2.out]; exact hb14, h2c, h1c⟩, by simp [intOf]; omega⟩
      · have hsb : (u.1 == (p : Int)) = false := by simpa using hs
        have HST2 : Hid (saysP P (l.take (r + 1)) p = cur) := Lib.hid (by rw [HST.out, if_neg hs])
        clear hs HST hcs
        go_wp2_with fail
        exact ⟨⟨r + 1, by omega, by go_num, HB.out, by rw [HST2.out]; exact HS.out, H2.out, H1.out⟩, by simp [intOf]; omega⟩
    · obtain rfl : r = l.length := by omega
      rw [List.take_length] at HS HSO
      have hs2 := HS.out
      have h2 := H2.out
      have h132 := bok_cells HSO.out
      have hsz := HB.out.size
      go_wp2_with (first
        | (refine Agg.gLoadB 132 hs2 h132 rfl rfl rfl (by decide +kernel) ?_; simp only [Act.put, List.setIfInBounds_toArray, List.set_cons_succ, List.set_cons_zero])
        | (refine Agg.gStoreB 132 (blkC (saysP P l p)) h2 rfl rfl rfl rfl rfl (by decide +kernel) zero132 h132 (blkC_one _) (fun w14 hb14 hg14 => ?_)))
      refine bodyPost_ret (results_row1 (m := 132) rfl hb14 rfl (by decide +kernel) h132) rfl ⟨rfl, ?_⟩
      exact HB.out.trans (grown_below hg14 hsz (fun j hj => by cases hj; omega))
end Go.Proofs.Ytjnnnnolikbjcaa
end
