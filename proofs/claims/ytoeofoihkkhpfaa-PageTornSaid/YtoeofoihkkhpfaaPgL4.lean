/-
  THE WALK OF LAYER 17's STATEMENT PageBack.
-/
import Derived.Test.YtoeofoihkkhpfaaPgL3
namespace Go.Proofs.Ytoeofoihkkhpfaa
open Go.ChangeShapes Go.WideShapes Go.ChangeAt Go.RowKit Agg Pg

theorem readR_cases (b : List Sec) (hb : BOk b) (k : Int) (d : List UInt8) (n : Nat) (er : Int) (h : readR b = ((k, d), n, er)) : (er = 0 ∧ pageP k d ∧ stampP n ∧ layB k d n = b) ∨ (er ≠ 0 ∧ k = 0 ∧ d = [] ∧ n = 0) := by
  unfold readR at h
  split at h
  · rename_i hs
    obtain ⟨h1, h2⟩ := stampB_all hs
    split at h
    · rename_i hh
      split at h
      · rename_i hf
        simp only [Prod.mk.injEq] at h
        obtain ⟨⟨rfl, rfl⟩, rfl, rfl⟩ := h
        obtain ⟨q1, q2⟩ := lay_again b hb.1 hb.len h2 hh hf
        exact .inl ⟨rfl, q1, h1, q2⟩
      · simp only [Prod.mk.injEq] at h
        obtain ⟨⟨rfl, rfl⟩, rfl, rfl⟩ := h
        exact .inr ⟨by decide, rfl, rfl, rfl⟩
    · simp only [Prod.mk.injEq] at h
      obtain ⟨⟨rfl, rfl⟩, rfl, rfl⟩ := h
      exact .inr ⟨by decide, rfl, rfl, rfl⟩
  · simp only [Prod.mk.injEq] at h
    obtain ⟨⟨rfl, rfl⟩, rfl, rfl⟩ := h
    exact .inr ⟨by decide, rfl, rfl, rfl⟩
theorem spliced_one (xs : List Value) (k : Nat) (v : Value) (h : k < xs.length) (i : Nat) : (spliced xs k [v])[i]? = if i = k then some v else xs[i]? := by
  have e : spliced xs k [v] = xs.set k v := by
    unfold spliced
    rw [List.set_eq_take_append_cons_drop, if_pos h]
    simp
  rw [e, List.getElem?_set]
  by_cases hik : k = i
  · subst hik; simp [h]
  · rw [if_neg hik, if_neg (fun e => hik e.symm)]
/-- bytes in a block of their own, whatever they are -/
def AnyB (w : World) (x : Option Addr) (n : Nat) (bad : List Nat) (base : Nat) : Prop := n = 0 ∨ ∃ g cur, x = some ⟨g, 0, none⟩ ∧ g ∉ bad ∧ base ≤ g ∧ Blk w g 5 cur ∧ n ≤ cur.length ∧ ∀ i, i < n → ∃ z : Int, cur[i]? = some (.int .u8 z)
theorem AnyB.of {w : World} {base : Nat} {x : Option Addr} {c n : Nat} {l : List UInt8} (h : w.ownsRow base 5 1 (.slice x n c) n (bv l)) (hl : l.length = n) (bad : List Nat) (hbad : ∀ g ∈ bad, g < base ∨ w.heap.size ≤ g) : AnyB w x n bad base := by
  rcases h.2 with ⟨_, h2⟩ | ⟨g, cap, cur, hv, hg, hh, hn, hm, hs, ht⟩
  · exact .inl h2
  · simp only [Value.slice.injEq, true_and] at hv
    obtain ⟨rfl, rfl⟩ := hv
    have hlt : g < w.heap.size := (Array.getElem?_eq_some_iff.1 hh).1
    refine .inr ⟨g, cur.toList, rfl, fun hgb => ?_, hg, by simpa [Blk] using hh, by simp; omega, fun i hi => ?_⟩
    · have := hbad g hgb; omega
    · refine ⟨(l[i].toNat : Int), ?_⟩
      have h1 : (bv l)[i]? = some (.int .u8 (l[i].toNat : Int)) := bv_get l i (by omega)
      rw [← ht, List.getElem?_take_of_lt (by omega)] at h1
      exact h1
theorem AnyB.base {w : World} {x : Option Addr} {n : Nat} {bad : List Nat} {b b' : Nat} (h : AnyB w x n bad b) (hb : b' ≤ b) : AnyB w x n bad b' := by
  rcases h with h | ⟨g, cur, h1, h2, h3, h4⟩
  · exact .inl h
  · exact .inr ⟨g, cur, h1, h2, by omega, h4⟩
theorem AnyB.keep {w w' : World} {x : Option Addr} {n : Nat} {bad : List Nat} {base : Nat} (h : AnyB w x n bad base) (hb : Below w.heap.size w w') : AnyB w' x n bad base := by
  rcases h with h | ⟨g, cur, h1, h2, h3, h4, h5, h6⟩
  · exact .inl h
  · exact .inr ⟨g, cur, h1, h2, h3, h4.keep hb, h5, h6⟩
set_option maxHeartbeats 8000000 in
set_option maxRecDepth 100000 in
theorem back_any (k1 : Int) (x1 : List UInt8) (v1 : Value) (n : Nat) (b : List Sec) (hb : BOk b) (w : World) (hv1 : Bytes w v1 x1) :
    Calls Try.prog 5 #[.agg #[.int .i64 k1, v1], .int .u64 (n : Int), .agg (blkC b).toArray] w fun e w' => e = .returned (.bool true) ∧ Below w.heap.size w w' := by
  have HX1 := Lib.hid hv1
  obtain ⟨y1, c1, rfl, _, _⟩ := SlR.shape hv1
  obtain ⟨⟨⟨k2, d2⟩, n2, e2⟩, hr2⟩ : ∃ r, readR b = r := ⟨_, rfl⟩
  have HRC := Lib.hid (readR_cases b hb k2 d2 n2 e2 hr2)
  have HRB := Lib.hid hr2
  have HBO := Lib.hid hb
  have h132 := bok_cells hb
  clear hv1 hb hr2
  have HB := Lib.hid (Below.refl w.heap.size w)
  go_enter Try.func5, Try.ntmps5
  go_wp2_with fail
  refine Agg.calls_at fun w1 hw1 => ?_
  have hb : Below w.heap.size w w1 := by rw [hw1.out]; repeat (first | exact Below.refl _ _ | refine Agg.bel_drew ?_ | refine Agg.bel_alloc ?_ _)
  replace HB := Lib.hid (HB.out.trans (hb.mono HB.out.size))
  replace HX1 := Lib.hid (HX1.out.keep hb)
  clear hb
  have H3 : Hid (Blk w1 w.heap.size 24 [.int .i64 k1, .slice y1 x1.length c1]) := by show Blk _ _ _ _; rw [hw1.out]; exact (Blk.new w 24 #[.int .i64 k1, .slice y1 x1.length c1]).al _
  have H5 : Hid (Blk w1 (w.heap.size + 1) 36 (blkC b)) := by show Blk _ _ _ _; rw [hw1.out]; exact Blk.newAt (w.alloc _) 36 (blkC b).toArray _ (by simp)
  clear hw1
  refine (wakes_any w1).mono ?_
  rintro e w2 ⟨rfl, hb⟩
  replace HB := Lib.hid (HB.out.trans (hb.mono HB.out.size))
  replace HX1 := Lib.hid (HX1.out.keep hb)
  replace H3 := Lib.hid (H3.out.keep hb)
  replace H5 := Lib.hid (H5.out.keep hb)
  clear hb
  have xH3_0 := H3.out.cell 0
  have xH3_1 := H3.out.cell 1
  have lH3 := H3.out.lt
  simp only [List.getElem?_cons_zero, List.getElem?_cons_succ] at xH3_0 xH3_1
  go_wp2_with fail
  clear xH3_0 xH3_1 lH3
  refine (own_any k1 x1 _ w2 HX1.out).mono ?_
  rintro e w3 ⟨u1, rfl, hb1, hb⟩
  replace HB := Lib.hid (HB.out.trans (hb.mono HB.out.size))
  replace HX1 := Lib.hid (HX1.out.keep hb)
  replace H3 := Lib.hid (H3.out.keep hb)
  replace H5 := Lib.hid (H5.out.keep hb)
  clear hb
  obtain ⟨ys1, cs1, rfl, _, _⟩ := SlR.shape hb1
  have HD1 := Lib.hid hb1
  clear hb1
  obtain ⟨d1, hd1⟩ : ∃ d1, d1 = x1.take 200 := ⟨_, rfl⟩
  rw [← hd1] at HD1 ⊢
  have hd200 : d1.length ≤ 200 := by rw [hd1, List.length_take]; omega
  clear hd1
  go_wp2_with fail
  refine Agg.calls_at fun w4 hw4 => ?_
  have hb : Below w3.heap.size w3 w4 := by rw [hw4.out]; repeat (first | exact Below.refl _ _ | refine Agg.bel_drew ?_ | refine Agg.bel_alloc ?_ _)
  replace HB := Lib.hid (HB.out.trans (hb.mono HB.out.size))
  replace H5 := Lib.hid (H5.out.keep hb)
  replace HD1 := Lib.hid (HD1.out.keep hb)
  clear hb
  have H7 : Hid (Blk w4 w3.heap.size 24 [.int .i64 k1, .slice ys1 d1.length cs1]) := by show Blk _ _ _ _; rw [hw4.out]; exact Blk.new w3 24 #[.int .i64 k1, .slice ys1 d1.length cs1]
  clear hw4
  generalize w3.heap.size = g7 at *
  by_cases hok : pageP k1 d1 ∧ stampP n
  · have hl132 : (blkC (layB k1 d1 n)).length = 132 := bok_cells (layB_bok k1 d1 n hok.1.2.2 hok.2)
    refine (layP_any k1 d1 n _ w4 HD1.out (layB k1 d1 n) 0 (if_pos hok)).mono ?_
    rintro e w5 ⟨rfl, hb⟩
    replace HB := Lib.hid (HB.out.trans (hb.mono HB.out.size))
    replace H5 := Lib.hid (H5.out.keep hb)
    replace HD1 := Lib.hid (HD1.out.keep hb)
    replace H7 := Lib.hid (H7.out.keep hb)
    clear hb
    have hl1 := blkC_one (layB k1 d1 n)
    have HRL := Lib.hid (read_lay k1 d1 n hok.1 hok.2)
    have HOK := Lib.hid (layB_bok k1 d1 n hok.1.2.2 hok.2)
    clear hok
    go_wp2_with (first
      | (refine Agg.allocRow 36 (blkC zeroB).toArray rfl rfl (by kernel_rfl) ?_; simp only [Act.put, List.setIfInBounds_toArray, List.set_cons_succ, List.set_cons_zero])
      | (refine Agg.gStoreNew 132 (blkC (layB k1 d1 n)) rfl rfl rfl rfl rfl rfl (by decide +kernel) hl132 (by simp [zero132]) hl1 ?_; simp only [Act.put])
      | (refine Agg.gLoadB 132 (Blk.new _ _ (blkC (layB k1 d1 n)).toArray) hl132 rfl rfl rfl (by decide +kernel) ?_; simp only [Act.put, List.setIfInBounds_toArray, List.set_cons_succ, List.set_cons_zero]))
    refine Agg.calls_at fun w6 hw6 => ?_
    have hb : Below w5.heap.size w5 w6 := by rw [hw6.out]; repeat (first | exact Below.refl _ _ | refine Agg.bel_drew ?_ | refine Agg.bel_alloc ?_ _)
    replace HB := Lib.hid (HB.out.trans (hb.mono HB.out.size))
    replace H5 := Lib.hid (H5.out.keep hb)
    replace HD1 := Lib.hid (HD1.out.keep hb)
    replace H7 := Lib.hid (H7.out.keep hb)
    clear hb
    clear hw6
    have hw5 := H5.out.lt
    refine (read_any (layB k1 d1 n) HOK.out w6 k1 d1 n 0 HRL.out).mono ?_
    rintro e w7 ⟨u, rfl, hou, hb⟩
    replace HB := Lib.hid (HB.out.trans (hb.mono HB.out.size))
    replace H5 := Lib.hid (H5.out.keep hb)
    replace HD1 := Lib.hid (HD1.out.keep hb)
    replace H7 := Lib.hid (H7.out.keep hb)
    clear hb
    obtain ⟨xu, cu, rfl, _, _⟩ := (ownSl hou).shape
    have HUB : Hid (Bytes w7 (.slice xu d1.length cu) d1) := Lib.hid (own_bytes hou rfl)
    have HUA := Lib.hid (AnyB.of hou rfl [w.heap.size + 1, w7.heap.size] (by intro g hg; simp at hg; omega))
    clear hou
    have xH7_0 := H7.out.cell 0
    have xH7_1 := H7.out.cell 1
    have lH7 := H7.out.lt
    simp only [List.getElem?_cons_zero, List.getElem?_cons_succ] at xH7_0 xH7_1
    go_wp2_with fail
    refine Agg.calls_at fun w8 hw8 => ?_
    have hb : Below w7.heap.size w7 w8 := by rw [hw8.out]; repeat (first | exact Below.refl _ _ | refine Agg.bel_drew ?_ | refine Agg.bel_alloc ?_ _)
    replace HB := Lib.hid (HB.out.trans (hb.mono HB.out.size))
    replace H5 := Lib.hid (H5.out.keep hb)
    replace HD1 := Lib.hid (HD1.out.keep hb)
    replace H7 := Lib.hid (H7.out.keep hb)
    replace HUB := Lib.hid (HUB.out.keep hb)
    replace HUA := Lib.hid (HUA.out.keep hb)
    clear hb
    have H10 : Hid (Blk w8 w7.heap.size 24 [.int .i64 k1, .slice xu d1.length cu]) := by show Blk _ _ _ _; rw [hw8.out]; exact Blk.new w7 24 #[.int .i64 k1, .slice xu d1.length cu]
    clear hw8
    generalize w7.heap.size = g10 at *
    clear xH7_0 xH7_1 lH7
    refine (same_any k1 k1 d1 d1 _ _ w8 HD1.out HUB.out true (by simp)).mono ?_
    rintro e w9 ⟨rfl, hb⟩
    replace HB := Lib.hid (HB.out.trans (hb.mono HB.out.size))
    replace H5 := Lib.hid (H5.out.keep hb)
    replace HD1 := Lib.hid (HD1.out.keep hb)
    replace H7 := Lib.hid (H7.out.keep hb)
    replace HUB := Lib.hid (HUB.out.keep hb)
    replace HUA := Lib.hid (HUA.out.keep hb)
    replace H10 := Lib.hid (H10.out.keep hb)
    clear hb
    clear HUB HD1 H7
    have xH10_0 := H10.out.cell 0
    have xH10_1 := H10.out.cell 1
    have lH10 := H10.out.lt
    simp only [List.getElem?_cons_zero, List.getElem?_cons_succ] at xH10_0 xH10_1
    go_wp2_with fail
    clear xH10_0 xH10_1 lH10
    have hb0 := HB.out.size
    go_loopw [53] (fun i wr => ∃ k : Nat, k ≤ d1.length ∧ i = .int .i64 k ∧ AnyB wr xu d1.length [w.heap.size + 1, g10] w.heap.size ∧ Blk wr (w.heap.size + 1) 36 (blkC b) ∧ Blk wr g10 24 [.int .i64 k1, .slice xu d1.length cu] ∧ Below w.heap.size w wr) (fun i _ => d1.length - (intOf i).toNat)
    case atStart => exact ⟨0, by omega, rfl, HUA.out.base (by omega), H5.out, H10.out, HB.out⟩
    case round =>
      obtain ⟨k, hk, rfl, hq1, hq2, hq3, hq4⟩ := hrel
      replace HB := Lib.hid hq4
      replace H5 := Lib.hid hq2
      replace H10 := Lib.hid hq3
      replace HUA := Lib.hid hq1
      clear hq1 hq2 hq3 hq4
      by_cases hlt : k < d1.length
      · obtain ⟨g, cur, rfl, hbad, hbase, hblk, hlen, hall⟩ := HUA.out.resolve_left (by omega)
        have HALL := Lib.hid hall
        have HBAD : Hid (w.heap.size + 1 ≠ g ∧ g10 ≠ g) := by
          simp only [List.mem_cons, List.not_mem_nil, or_false, not_or] at hbad
          exact Lib.hid ⟨Ne.symm hbad.1, Ne.symm hbad.2⟩
        obtain ⟨z, hz⟩ := hall k hlt
        have hc : wr.cell? ⟨g, k, none⟩ = some (.int .u8 z) := by rw [hblk.cell]; exact hz
        have hfit : k + 1 ≤ cur.length := by omega
        clear hall hbad hz
        have xH10_0 := H10.out.cell 0
        have xH10_1 := H10.out.cell 1
        have lH10 := H10.out.lt
        simp only [List.getElem?_cons_zero, List.getElem?_cons_succ] at xH10_0 xH10_1
        go_wp2_with (refine Agg.gStoreCell k _ hblk rfl rfl rfl rfl rfl (by kernel_rfl) rfl hfit rfl (fun w5 hb5 hg5 => ?_); clear hc)
        clear xH10_0 xH10_1 lH10
        have hn5 := H5.out.far' hg5 HBAD.out.1
        have hn10 := H10.out.far' hg5 HBAD.out.2
        have hnb := HB.out.trans (grown_below hg5 HB.out.size (fun j hj => (by cases hj; exact hbase)))
        have hna : AnyB w5 (some ⟨g, 0, none⟩) d1.length [w.heap.size + 1, g10] w.heap.size := by
          refine .inr ⟨g, _, rfl, by simp only [List.mem_cons, List.not_mem_nil, or_false, not_or]; exact ⟨Ne.symm HBAD.out.1, Ne.symm HBAD.out.2⟩, hbase, hb5, by rw [spliced_length _ _ _ (by simpa using hfit)]; exact hlen, fun i hi => ?_⟩
          rw [spliced_one cur k _ (by omega)]
          split
          · exact ⟨_, rfl⟩
          · exact HALL.out i hi
        go_roundw
        case rel => exact ⟨k + 1, by omega, by go_num, hna, hn5, hn10, hnb⟩
        case measure => simp [intOf]; omega
      · obtain rfl : k = d1.length := by omega
        have h5 := H5.out
        go_wp2_with (first
          | (refine Agg.gLoadB 132 h5 h132 rfl rfl rfl (by decide +kernel) ?_; simp only [Act.put, List.setIfInBounds_toArray, List.set_cons_succ, List.set_cons_zero]))
        clear h5
        refine (read_any b HBO.out wr k2 d2 n2 e2 HRB.out).mono ?_
        rintro e w41 ⟨u2, rfl, hou, hb⟩
        replace HB := Lib.hid (HB.out.trans (hb.mono HB.out.size))
        replace H5 := Lib.hid (H5.out.keep hb)
        clear hb
        obtain ⟨xu2, cu2, rfl, _, _⟩ := (ownSl hou).shape
        have HU2 : Hid (Bytes w41 (.slice xu2 d2.length cu2) d2) := Lib.hid (own_bytes hou rfl)
        clear hou
        rcases HRC.out with ⟨rfl, hp2, hs2, hl2⟩ | ⟨he2, rfl, rfl, rfl⟩
        · go_wp2_with fail
          refine Agg.calls_at fun w42 hw42 => ?_
          have hb : Below w41.heap.size w41 w42 := by rw [hw42.out]; repeat (first | exact Below.refl _ _ | refine Agg.bel_drew ?_ | refine Agg.bel_alloc ?_ _)
          replace HB := Lib.hid (HB.out.trans (hb.mono HB.out.size))
          replace H5 := Lib.hid (H5.out.keep hb)
          replace HU2 := Lib.hid (HU2.out.keep hb)
          clear hb
          have hq5 := H5.out
          clear hw42
          refine (layP_any k2 d2 n2 _ w42 HU2.out b 0 (by rw [← hl2]; exact if_pos ⟨hp2, hs2⟩)).mono ?_
          rintro e w43 ⟨rfl, hb⟩
          replace HB := Lib.hid (HB.out.trans (hb.mono HB.out.size))
          replace H5 := Lib.hid (H5.out.keep hb)
          replace HU2 := Lib.hid (HU2.out.keep hb)
          clear hb
          have hb1 := blkC_one b
          clear hp2 hs2 hl2 hq5
          go_upto_region 18 with (first
            | (refine Agg.allocRow 36 (blkC zeroB).toArray rfl rfl (by kernel_rfl) ?_; simp only [Act.put, List.setIfInBounds_toArray, List.set_cons_succ, List.set_cons_zero])
            | (refine Agg.gStoreNew 132 (blkC b) rfl rfl rfl rfl rfl rfl (by decide +kernel) h132 (by simp [zero132]) hb1 ?_; simp only [Act.put]))
          refine Agg.wp_at fun w44 hw44 => ?_
          have hb : Below w43.heap.size w43 w44 := by rw [hw44.out]; repeat (first | exact Below.refl _ _ | refine Agg.bel_drew ?_ | refine Agg.bel_alloc ?_ _)
          replace HB := Lib.hid (HB.out.trans (hb.mono HB.out.size))
          replace H5 := Lib.hid (H5.out.keep hb)
          replace HU2 := Lib.hid (HU2.out.keep hb)
          clear hb
          have H17 : Hid (Blk w44 w43.heap.size 36 (blkC b)) := by show Blk _ _ _ _; rw [hw44.out]; exact Blk.new w43 36 (blkC b).toArray
          clear hw44
          generalize w43.heap.size = g17 at *
          refine Agg.listR 8 (by kernel_rfl) ?_
          simp only [List.take_succ_cons, List.take_zero, List.drop_succ_cons, List.drop_zero]
          refine Agg.chMove rfl rfl rfl rfl ?_
          refine Agg.chEq true (by decide) rfl rfl rfl rfl rfl ?_
          refine Agg.chMove rfl rfl rfl rfl ?_
          refine Agg.chRowB 132 H17 h132 (by decide +kernel) rfl rfl rfl rfl ?_
          refine Agg.chRowB 132 H5 h132 (by decide +kernel) rfl rfl rfl rfl ?_
          refine Agg.chBin (v := .bool true) rfl rfl rfl rfl rfl (fun w => flatBlk.gd .eql _ _ _ _ w) (fun w => blk_eql _ _ HBO.out HBO.out true (by simp) w) ?_
          refine Agg.chPick rfl rfl rfl rfl rfl ?_
          refine Agg.chAssign rfl rfl rfl rfl ?_
          refine Agg.chEnd ?_
          intro vs w45 hb _
          show Exit.then _ _ Exit.normal _ _
          simp only [List.reverse, List.reverseAux, Agg.fill, List.set_cons_succ, List.set_cons_zero]
          replace HB := Lib.hid (HB.out.trans (hb.mono HB.out.size))
          replace H5 := Lib.hid (H5.out.keep hb)
          replace HU2 := Lib.hid (HU2.out.keep hb)
          clear hb
          go_wp2_with fail
          go_ret
          exact ⟨rfl, HB.out⟩
        · have heb : (e2 == 0) = false := by simpa using he2
          have heb2 : (e2 != 0) = true := by simpa using he2
          clear he2
          go_wp2_with (refine Agg.gBuild0 (.agg #[.int .i64 0, .slice none 0 0]) rfl rfl (fun _ => by kernel_rfl) ?_; simp only [Act.put, List.setIfInBounds_toArray, List.set_cons_succ, List.set_cons_zero])
          refine Agg.calls_at fun w46 hw46 => ?_
          have hb : Below w41.heap.size w41 w46 := by rw [hw46.out]; repeat (first | exact Below.refl _ _ | refine Agg.bel_drew ?_ | refine Agg.bel_alloc ?_ _)
          replace HB := Lib.hid (HB.out.trans (hb.mono HB.out.size))
          replace H5 := Lib.hid (H5.out.keep hb)
          replace HU2 := Lib.hid (HU2.out.keep hb)
          clear hb
          clear hw46
          refine (same_any 0 0 [] [] _ _ w46 HU2.out (SlR.nil _ _) true (by simp)).mono ?_
          rintro e w47 ⟨rfl, hb⟩
          replace HB := Lib.hid (HB.out.trans (hb.mono HB.out.size))
          replace H5 := Lib.hid (H5.out.keep hb)
          replace HU2 := Lib.hid (HU2.out.keep hb)
          clear hb
          go_wp2_with fail
          go_ret
          exact ⟨rfl, HB.out⟩
  · obtain ⟨rL, hrL⟩ : ∃ rL, rL = layR k1 d1 n := ⟨_, rfl⟩
    have hrl : layR k1 d1 n = (zeroB, 2) := if_neg hok
    refine (layP_any k1 d1 n _ w4 HD1.out zeroB 2 hrl).mono ?_
    rintro e w48 ⟨rfl, hb⟩
    replace HB := Lib.hid (HB.out.trans (hb.mono HB.out.size))
    replace H5 := Lib.hid (H5.out.keep hb)
    replace HD1 := Lib.hid (HD1.out.keep hb)
    replace H7 := Lib.hid (H7.out.keep hb)
    clear hb
    have hz1 := blkC_one zeroB
    clear hok hrl hrL rL
    have h5 := H5.out.al (.cells (blkC zeroB).toArray 36)
    go_wp2_with (first
      | (refine Agg.allocRow 36 (blkC zeroB).toArray rfl rfl (by kernel_rfl) ?_; simp only [Act.put, List.setIfInBounds_toArray, List.set_cons_succ, List.set_cons_zero])
      | (refine Agg.gStoreNew 132 (blkC zeroB) rfl rfl rfl rfl rfl rfl (by decide +kernel) zero132 (by simp [zero132]) hz1 ?_; simp only [Act.put])
      | (refine Agg.gLoadB 132 h5 h132 rfl rfl rfl (by decide +kernel) ?_; simp only [Act.put, List.setIfInBounds_toArray, List.set_cons_succ, List.set_cons_zero]))
    clear h5
    refine Agg.calls_at fun w49 hw49 => ?_
    have hb : Below w48.heap.size w48 w49 := by rw [hw49.out]; repeat (first | exact Below.refl _ _ | refine Agg.bel_drew ?_ | refine Agg.bel_alloc ?_ _)
    replace HB := Lib.hid (HB.out.trans (hb.mono HB.out.size))
    replace H5 := Lib.hid (H5.out.keep hb)
    clear hb
    clear hw49
    refine (read_any b HBO.out w49 k2 d2 n2 e2 HRB.out).mono ?_
    rintro e w50 ⟨u2, rfl, hou, hb⟩
    replace HB := Lib.hid (HB.out.trans (hb.mono HB.out.size))
    replace H5 := Lib.hid (H5.out.keep hb)
    clear hb
    obtain ⟨xu2, cu2, rfl, _, _⟩ := (ownSl hou).shape
    have HU2 : Hid (Bytes w50 (.slice xu2 d2.length cu2) d2) := Lib.hid (own_bytes hou rfl)
    clear hou
    rcases HRC.out with ⟨rfl, hp2, hs2, hl2⟩ | ⟨he2, rfl, rfl, rfl⟩
    · go_wp2_with fail
      refine Agg.calls_at fun w51 hw51 => ?_
      have hb : Below w50.heap.size w50 w51 := by rw [hw51.out]; repeat (first | exact Below.refl _ _ | refine Agg.bel_drew ?_ | refine Agg.bel_alloc ?_ _)
      replace HB := Lib.hid (HB.out.trans (hb.mono HB.out.size))
      replace H5 := Lib.hid (H5.out.keep hb)
      replace HU2 := Lib.hid (HU2.out.keep hb)
      clear hb
      have hq5 := H5.out
      clear hw51
      refine (layP_any k2 d2 n2 _ w51 HU2.out b 0 (by rw [← hl2]; exact if_pos ⟨hp2, hs2⟩)).mono ?_
      rintro e w52 ⟨rfl, hb⟩
      replace HB := Lib.hid (HB.out.trans (hb.mono HB.out.size))
      replace H5 := Lib.hid (H5.out.keep hb)
      replace HU2 := Lib.hid (HU2.out.keep hb)
      clear hb
      have hb1 := blkC_one b
      clear hp2 hs2 hl2 hq5
      go_upto_region 18 with (first
        | (refine Agg.allocRow 36 (blkC zeroB).toArray rfl rfl (by kernel_rfl) ?_; simp only [Act.put, List.setIfInBounds_toArray, List.set_cons_succ, List.set_cons_zero])
        | (refine Agg.gStoreNew 132 (blkC b) rfl rfl rfl rfl rfl rfl (by decide +kernel) h132 (by simp [zero132]) hb1 ?_; simp only [Act.put]))
      refine Agg.wp_at fun w53 hw53 => ?_
      have hb : Below w52.heap.size w52 w53 := by rw [hw53.out]; repeat (first | exact Below.refl _ _ | refine Agg.bel_drew ?_ | refine Agg.bel_alloc ?_ _)
      replace HB := Lib.hid (HB.out.trans (hb.mono HB.out.size))
      replace H5 := Lib.hid (H5.out.keep hb)
      replace HU2 := Lib.hid (HU2.out.keep hb)
      clear hb
      have H17 : Hid (Blk w53 w52.heap.size 36 (blkC b)) := by show Blk _ _ _ _; rw [hw53.out]; exact Blk.new w52 36 (blkC b).toArray
      clear hw53
      generalize w52.heap.size = g17 at *
      refine Agg.listR 8 (by kernel_rfl) ?_
      simp only [List.take_succ_cons, List.take_zero, List.drop_succ_cons, List.drop_zero]
      refine Agg.chMove rfl rfl rfl rfl ?_
      refine Agg.chEq true (by decide) rfl rfl rfl rfl rfl ?_
      refine Agg.chMove rfl rfl rfl rfl ?_
      refine Agg.chRowB 132 H17 h132 (by decide +kernel) rfl rfl rfl rfl ?_
      refine Agg.chRowB 132 H5 h132 (by decide +kernel) rfl rfl rfl rfl ?_
      refine Agg.chBin (v := .bool true) rfl rfl rfl rfl rfl (fun w => flatBlk.gd .eql _ _ _ _ w) (fun w => blk_eql _ _ HBO.out HBO.out true (by simp) w) ?_
      refine Agg.chPick rfl rfl rfl rfl rfl ?_
      refine Agg.chAssign rfl rfl rfl rfl ?_
      refine Agg.chEnd ?_
      intro vs w54 hb _
      show Exit.then _ _ Exit.normal _ _
      simp only [List.reverse, List.reverseAux, Agg.fill, List.set_cons_succ, List.set_cons_zero]
      replace HB := Lib.hid (HB.out.trans (hb.mono HB.out.size))
      replace H5 := Lib.hid (H5.out.keep hb)
      replace HU2 := Lib.hid (HU2.out.keep hb)
      clear hb
      go_wp2_with fail
      go_ret
      exact ⟨rfl, HB.out⟩
    · have heb : (e2 == 0) = false := by simpa using he2
      have heb2 : (e2 != 0) = true := by simpa using he2
      clear he2
      go_wp2_with (refine Agg.gBuild0 (.agg #[.int .i64 0, .slice none 0 0]) rfl rfl (fun _ => by kernel_rfl) ?_; simp only [Act.put, List.setIfInBounds_toArray, List.set_cons_succ, List.set_cons_zero])
      refine Agg.calls_at fun w55 hw55 => ?_
      have hb : Below w50.heap.size w50 w55 := by rw [hw55.out]; repeat (first | exact Below.refl _ _ | refine Agg.bel_drew ?_ | refine Agg.bel_alloc ?_ _)
      replace HB := Lib.hid (HB.out.trans (hb.mono HB.out.size))
      replace H5 := Lib.hid (H5.out.keep hb)
      replace HU2 := Lib.hid (HU2.out.keep hb)
      clear hb
      clear hw55
      refine (same_any 0 0 [] [] _ _ w55 HU2.out (SlR.nil _ _) true (by simp)).mono ?_
      rintro e w56 ⟨rfl, hb⟩
      replace HB := Lib.hid (HB.out.trans (hb.mono HB.out.size))
      replace H5 := Lib.hid (H5.out.keep hb)
      replace HU2 := Lib.hid (HU2.out.keep hb)
      clear hb
      go_wp2_with fail
      go_ret
      exact ⟨rfl, HB.out⟩
theorem PageBack_walk (c0 : Array Value) (f0 : Nat) (z : Int) (c2 : Array Value) (f2 : Nat) (w : World) (h0 : Agg.Good Try.prog w f0 24 c0.toList) (hz : (Lit.int .u64 z).wf = true) (h2 : Agg.Good Try.prog w f2 36 c2.toList) :
    Calls Try.prog 5 #[.agg c0, .int .u64 z, .agg c2] w fun e w' => e = .returned (.bool true) ∧ Below w.heap.size w w' := by
  obtain ⟨k1, v1, x1, rfl, q1, _, _⟩ := good_page h0
  obtain ⟨n, rfl, _⟩ := u64_wf hz
  obtain ⟨b, h3, h4⟩ := good_block h2
  obtain rfl : c2 = (blkC b).toArray := Array.toList_inj.1 h3
  exact back_any k1 x1 v1 n b h4 w q1
end Go.Proofs.Ytoeofoihkkhpfaa
