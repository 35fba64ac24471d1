/-
  THE WALK OF LAYER 17's STATEMENT PageTorn.
-/
import Derived.Test.YtoeofoihkkhpfaaPgL4
import Derived.Test.YtoeofoihkkhpfaaRow2
namespace Go.Proofs.Ytoeofoihkkhpfaa
open Go.ChangeShapes Go.WideShapes Go.ChangeAt Go.RowKit Agg Pg

theorem and_15 (m : Int) : bits .and .i64 m 15 = m % 16 := by
  show IntKind.i64.wrap ((BitVec.ofInt 64 m &&& BitVec.ofInt 64 15).toNat : Int) = _
  have h1 : (BitVec.ofInt 64 15).toNat = 2 ^ 4 - 1 := by decide
  rw [BitVec.toNat_and, BitVec.toNat_ofInt, h1, Nat.and_two_pow_sub_one_eq_mod, IntKind.wrap_i64]
  omega
theorem mixB_get (a b : List Sec) (ha : a.length = 4) (hb : b.length = 4) (mask : Int) (i : Nat) (hi : i < 4) : (mixB a b mask)[i]'(by simp [mixB]; exact hi) = if (mask / 2 ^ i) % 2 = 1 then b[i] else a[i] := by
  simp only [mixB, List.getElem_map, List.getElem_range]
  rw [getD_mem i (by omega), getD_mem i (by omega)]
theorem mix_all (a b : List Sec) (ha : a.length = 4) (hb : b.length = 4) (mask : Int) (h : mask % 16 = 15) : mixB a b mask = b := by
  apply List.ext_getElem (by simp [mixB, hb])
  intro i h1 h2
  have hi : i < 4 := by omega
  rw [mixB_get a b ha hb mask i hi, if_pos]
  rcases i with _ | _ | _ | _ | i
  · simp only [Int.pow_zero]; omega
  · simp only [Nat.zero_add, Int.pow_one]; omega
  · simp only [Nat.zero_add, Nat.reduceAdd, Int.reducePow]; omega
  · simp only [Nat.zero_add, Nat.reduceAdd, Int.reducePow]; omega
  · omega
theorem mix_none (a b : List Sec) (ha : a.length = 4) (hb : b.length = 4) (mask : Int) (h : mask % 16 = 0) : mixB a b mask = a := by
  apply List.ext_getElem (by simp [mixB, ha])
  intro i h1 h2
  have hi : i < 4 := by omega
  rw [mixB_get a b ha hb mask i hi, if_neg]
  rcases i with _ | _ | _ | _ | i
  · simp only [Int.pow_zero]; omega
  · simp only [Nat.zero_add, Int.pow_one]; omega
  · simp only [Nat.zero_add, Nat.reduceAdd, Int.reducePow]; omega
  · simp only [Nat.zero_add, Nat.reduceAdd, Int.reducePow]; omega
  · omega
theorem mix_torn (a b : List Sec) (ha : a.length = 4) (hb : b.length = 4) (mask : Int) (N : Nat) (h1 : ∀ s ∈ a, s.1 < N) (h2 : ∀ s ∈ b, s.1 = N) (h0 : mask % 16 ≠ 0) (h15 : mask % 16 ≠ 15) : stampB (mixB a b mask) = false := by
  have hyes : ∃ i, i < 4 ∧ (mask / 2 ^ i) % 2 = 1 := by
    by_cases q0 : (mask / 2 ^ 0) % 2 = 1
    · exact ⟨0, by omega, q0⟩
    · by_cases q1 : (mask / 2 ^ 1) % 2 = 1
      · exact ⟨1, by omega, q1⟩
      · by_cases q2 : (mask / 2 ^ 2) % 2 = 1
        · exact ⟨2, by omega, q2⟩
        · refine ⟨3, by omega, ?_⟩
          simp only [Int.pow_zero, Int.pow_one, Int.reducePow] at q0 q1 q2 ⊢
          omega
  have hno : ∃ i, i < 4 ∧ ¬ (mask / 2 ^ i) % 2 = 1 := by
    by_cases q0 : (mask / 2 ^ 0) % 2 = 1
    · by_cases q1 : (mask / 2 ^ 1) % 2 = 1
      · by_cases q2 : (mask / 2 ^ 2) % 2 = 1
        · refine ⟨3, by omega, ?_⟩
          simp only [Int.pow_zero, Int.pow_one, Int.reducePow] at q0 q1 q2 ⊢
          omega
        · exact ⟨2, by omega, q2⟩
      · exact ⟨1, by omega, q1⟩
    · exact ⟨0, by omega, q0⟩
  obtain ⟨i, hi, qi⟩ := hyes
  obtain ⟨j, hj, qj⟩ := hno
  have ei := mixB_get a b ha hb mask i hi
  have ej := mixB_get a b ha hb mask j hj
  rw [if_pos qi] at ei
  rw [if_neg qj] at ej
  rw [Bool.eq_false_iff]
  intro hs
  obtain ⟨_, h⟩ := stampB_all hs
  have e1 := h _ (List.getElem_mem (by simp [mixB]; exact hi : i < (mixB a b mask).length))
  have e2 := h _ (List.getElem_mem (by simp [mixB]; exact hj : j < (mixB a b mask).length))
  rw [ei, h2 _ (List.getElem_mem _)] at e1
  rw [ej] at e2
  have := h1 _ (List.getElem_mem (by omega : j < a.length))
  omega
theorem layB_stamps (k : Int) (d : List UInt8) (n : Nat) : ∀ s ∈ layB k d n, s.1 = n := by
  intro s hs
  simp only [layB, secsOf, List.mem_cons, List.not_mem_nil, or_false] at hs
  rcases hs with rfl | rfl | rfl | rfl <;> rfl
/-- what is read of a mixture -/
theorem torn_plain (a : List Sec) (ha : BOk a) (k : Int) (d : List UInt8) (N : Nat) (hp : pageP k d) (hN : stampP N) (hg : ∀ s ∈ a, s.1 < N) (mask : Int) :
    (mask % 16 = 15 → readR (mixB a (layB k d N) mask) = ((k, d), N, 0)) ∧ (mask % 16 = 0 → mixB a (layB k d N) mask = a) ∧ (mask % 16 ≠ 15 → mask % 16 ≠ 0 → readR (mixB a (layB k d N) mask) = ((0, []), 0, 270)) := by
  have hb := layB_bok k d N hp.2.2 hN
  refine ⟨fun h => ?_, fun h => mix_none _ _ ha.1 hb.1 _ h, fun h1 h0 => ?_⟩
  · rw [mix_all _ _ ha.1 hb.1 _ h]; exact read_lay k d N hp hN
  · rw [readR, if_neg]
    rw [mix_torn _ _ ha.1 hb.1 mask N hg (layB_stamps k d N) h0 h1]; decide
set_option maxHeartbeats 8000000 in
set_option maxRecDepth 100000 in
theorem torn_any (a : List Sec) (ha : BOk a) (k1 : Int) (x1 : List UInt8) (v1 : Value) (ab : Nat) (hab : ab < 65536) (mask : Int) (w : World) (hv1 : Bytes w v1 x1) :
    Calls Try.prog 8 #[.agg (blkC a).toArray, .agg #[.int .i64 k1, v1], .int .u16 (ab : Int), .int .i64 mask] w fun e w' => e = .returned (.bool true) ∧ Below w.heap.size w w' := by
  have HX1 := Lib.hid hv1
  obtain ⟨y1, c1, rfl, _, _⟩ := SlR.shape hv1
  have HAO := Lib.hid ha
  have h132 := bok_cells ha
  have hz1 := blkC_one zeroB
  have HM := Lib.hid (and_15 mask)
  clear hv1 ha
  have HB := Lib.hid (Below.refl w.heap.size w)
  go_enter Try.func8, Try.ntmps8
  go_wp2_with fail
  refine Agg.calls_at fun w1 hw1 => ?_
  have hb : Below w.heap.size w w1 := by rw [hw1.out]; repeat (first | exact Below.refl _ _ | refine Agg.bel_drew ?_ | refine Agg.bel_alloc ?_ _)
  replace HB := Lib.hid (HB.out.trans (hb.mono HB.out.size))
  replace HX1 := Lib.hid (HX1.out.keep hb)
  clear hb
  have H4 : Hid (Blk w1 w.heap.size 36 (blkC a)) := by show Blk _ _ _ _; rw [hw1.out]; exact (Blk.new w 36 (blkC a).toArray).al _
  have H5 : Hid (Blk w1 (w.heap.size + 1) 24 [.int .i64 k1, .slice y1 x1.length c1]) := by show Blk _ _ _ _; rw [hw1.out]; exact Blk.newAt (w.alloc _) 24 #[.int .i64 k1, .slice y1 x1.length c1] _ (by simp)
  clear hw1
  refine (wakes_any w1).mono ?_
  rintro e w2 ⟨rfl, hb⟩
  replace HB := Lib.hid (HB.out.trans (hb.mono HB.out.size))
  replace HX1 := Lib.hid (HX1.out.keep hb)
  replace H4 := Lib.hid (H4.out.keep hb)
  replace H5 := Lib.hid (H5.out.keep hb)
  clear hb
  have xH5_0 := H5.out.cell 0
  have xH5_1 := H5.out.cell 1
  have lH5 := H5.out.lt
  simp only [List.getElem?_cons_zero, List.getElem?_cons_succ] at xH5_0 xH5_1
  go_wp2_with fail
  clear xH5_0 xH5_1 lH5
  refine (own_any k1 x1 _ w2 HX1.out).mono ?_
  rintro e w3 ⟨u1, rfl, hb1, hb⟩
  replace HB := Lib.hid (HB.out.trans (hb.mono HB.out.size))
  replace HX1 := Lib.hid (HX1.out.keep hb)
  replace H4 := Lib.hid (H4.out.keep hb)
  replace H5 := Lib.hid (H5.out.keep hb)
  clear hb
  obtain ⟨ys1, cs1, rfl, _, _⟩ := SlR.shape hb1
  have HD1 := Lib.hid hb1
  clear hb1
  obtain ⟨d1, hd1⟩ : ∃ d1, d1 = x1.take 200 := ⟨_, rfl⟩
  rw [← hd1] at HD1 ⊢
  clear hd1
  have h4 := H4.out
  go_wp2_with (first
    | (refine Agg.gLoadB 132 (h4.al _) h132 rfl rfl rfl (by decide +kernel) ?_; simp only [Act.put, List.setIfInBounds_toArray, List.set_cons_succ, List.set_cons_zero])
    | (refine Agg.gBuildRows tiBl [.tmp 23] [blkC a] rfl 1 rfl rfl rfl (by simp [h132]) (by decide) (by decide) ?_; simp only [Act.put, List.setIfInBounds_toArray, List.set_cons_succ, List.set_cons_zero]))
  clear h4
  refine Agg.calls_at fun w4 hw4 => ?_
  have hb : Below w3.heap.size w3 w4 := by rw [hw4.out]; repeat (first | exact Below.refl _ _ | refine Agg.bel_drew ?_ | refine Agg.bel_alloc ?_ _)
  replace HB := Lib.hid (HB.out.trans (hb.mono HB.out.size))
  replace H4 := Lib.hid (H4.out.keep hb)
  replace HD1 := Lib.hid (HD1.out.keep hb)
  clear hb
  have H9 : Hid (Blk w4 w3.heap.size 24 [.int .i64 k1, .slice ys1 d1.length cs1]) := by show Blk _ _ _ _; rw [hw4.out]; exact (Blk.new w3 24 #[.int .i64 k1, .slice ys1 d1.length cs1]).al _
  have HL : Hid (Blks w4 (.slice (some ⟨w3.heap.size + 1, 0, none⟩) 1 1) [a]) := by
    show SlR _ _ _ _ _
    rw [hw4.out]
    have := sl_newAt' (w3.alloc (.cells #[.int .i64 k1, .slice ys1 d1.length cs1] 24)) [blkC a].flatten.toArray 36 1 132 (by simp [h132]) (by decide) (w3.heap.size + 1) (by simp)
    simpa using this
  clear hw4
  generalize w3.heap.size = g9 at *
  refine (great_any [a] (by intro b hb; simp at hb; subst hb; exact HAO.out) _ w4 HL.out).mono ?_
  rintro e w5 ⟨rfl, hb⟩
  replace HB := Lib.hid (HB.out.trans (hb.mono HB.out.size))
  replace H4 := Lib.hid (H4.out.keep hb)
  replace HD1 := Lib.hid (HD1.out.keep hb)
  replace H9 := Lib.hid (H9.out.keep hb)
  replace HL := Lib.hid (HL.out.keep hb)
  clear hb
  have hgl : ∀ s ∈ a, s.1 ≤ grB [a] := fun s hs => le_grS _ s (by simpa using hs)
  have HGL := Lib.hid hgl
  clear hgl HL
  generalize grB [a] = g0 at *
  by_cases hgt : (g0 : Int) > 2305843009213693952
  · have xH9_0 := H9.out.cell 0
    have xH9_1 := H9.out.cell 1
    have lH9 := H9.out.lt
    simp only [List.getElem?_cons_zero, List.getElem?_cons_succ] at xH9_0 xH9_1
    go_wp2_with fail
    clear xH9_0 xH9_1 lH9
    refine (layP_any k1 d1 0 _ w5 HD1.out zeroB 2 (if_neg (fun h => by have := h.2.1; omega))).mono ?_
    rintro e w6 ⟨rfl, hb⟩
    replace HB := Lib.hid (HB.out.trans (hb.mono HB.out.size))
    replace H4 := Lib.hid (H4.out.keep hb)
    replace HD1 := Lib.hid (HD1.out.keep hb)
    replace H9 := Lib.hid (H9.out.keep hb)
    clear hb
    go_wp2_with (first
      | (refine Agg.allocRow 36 (blkC zeroB).toArray rfl rfl (by kernel_rfl) ?_; simp only [Act.put, List.setIfInBounds_toArray, List.set_cons_succ, List.set_cons_zero])
      | (refine Agg.gStoreNew 132 (blkC zeroB) rfl rfl rfl rfl rfl rfl (by decide +kernel) zero132 (by simp [zero132]) hz1 ?_; simp only [Act.put]))
    go_ret
    exact ⟨rfl, bel_alloc HB.out _⟩
  · have hz2 := hz1
    have xH9_0 := H9.out.cell 0
    have xH9_1 := H9.out.cell 1
    have lH9 := H9.out.lt
    simp only [List.getElem?_cons_zero, List.getElem?_cons_succ] at xH9_0 xH9_1
    go_wp2_with fail
    by_cases hp : pageP k1 d1
    · clear xH9_0 xH9_1 lH9
      have xH9_0 := H9.out.cell 0
      have xH9_1 := H9.out.cell 1
      have lH9 := H9.out.lt
      simp only [List.getElem?_cons_zero, List.getElem?_cons_succ] at xH9_0 xH9_1
      clear xH9_0 xH9_1 lH9
      refine (check_any k1 d1 _ w5 HD1.out 0 (if_pos hp)).mono ?_
      rintro e w7 ⟨rfl, hb⟩
      replace HB := Lib.hid (HB.out.trans (hb.mono HB.out.size))
      replace H4 := Lib.hid (H4.out.keep hb)
      replace HD1 := Lib.hid (HD1.out.keep hb)
      replace H9 := Lib.hid (H9.out.keep hb)
      clear hb
      have xH9_0 := H9.out.cell 0
      have xH9_1 := H9.out.cell 1
      have lH9 := H9.out.lt
      simp only [List.getElem?_cons_zero, List.getElem?_cons_succ] at xH9_0 xH9_1
      go_wp2_with fail
      rw [show ((g0 : Int) + (1 + (ab : Int))) = ((g0 + 1 + ab : Nat) : Int) by omega]
      obtain ⟨N, hN⟩ : ∃ N, N = g0 + 1 + ab := ⟨_, rfl⟩
      rw [← hN]
      have hsN : stampP N := ⟨by omega, by omega⟩
      have HPL := Lib.hid (torn_plain a HAO.out k1 d1 N hp hsN (fun s hs => by have := HGL.out s hs; omega) mask)
      have hlb := layB_bok k1 d1 N hp.2.2 hsN
      clear xH9_0 xH9_1 lH9
      refine (layP_any k1 d1 N _ w7 HD1.out (layB k1 d1 N) 0 (if_pos ⟨hp, hsN⟩)).mono ?_
      rintro e w8 ⟨rfl, hb⟩
      replace HB := Lib.hid (HB.out.trans (hb.mono HB.out.size))
      replace H4 := Lib.hid (H4.out.keep hb)
      replace HD1 := Lib.hid (HD1.out.keep hb)
      replace H9 := Lib.hid (H9.out.keep hb)
      clear hb
      obtain ⟨L, hL⟩ : ∃ L, L = layB k1 d1 N := ⟨_, rfl⟩
      rw [← hL] at HPL hlb ⊢
      have HLB := Lib.hid hlb
      have hl132 := bok_cells hlb
      have hl1 := blkC_one L
      have HMB := Lib.hid (mixB_bok HAO.out HLB.out mask)
      clear hlb hp hsN hN hL hgt HGL
      have h4 := H4.out
      go_wp2_with (first
        | (refine Agg.allocRow 36 (blkC zeroB).toArray rfl rfl (by kernel_rfl) ?_; simp only [Act.put, List.setIfInBounds_toArray, List.set_cons_succ, List.set_cons_zero])
        | (refine Agg.gStoreNew 132 (blkC L) rfl rfl rfl rfl rfl rfl (by decide +kernel) hl132 (by simp [zero132]) hl1 ?_; simp only [Act.put])
        | (refine Agg.gLoadB 132 (h4.al _) h132 rfl rfl rfl (by decide +kernel) ?_; simp only [Act.put, List.setIfInBounds_toArray, List.set_cons_succ, List.set_cons_zero])
        | (refine Agg.gLoadB 132 (Blk.new _ _ (blkC L).toArray) hl132 rfl rfl rfl (by decide +kernel) ?_; simp only [Act.put, List.setIfInBounds_toArray, List.set_cons_succ, List.set_cons_zero]))
      clear h4
      refine Agg.calls_at fun w9 hw9 => ?_
      have hb : Below w8.heap.size w8 w9 := by rw [hw9.out]; repeat (first | exact Below.refl _ _ | refine Agg.bel_drew ?_ | refine Agg.bel_alloc ?_ _)
      replace HB := Lib.hid (HB.out.trans (hb.mono HB.out.size))
      replace H4 := Lib.hid (H4.out.keep hb)
      replace HD1 := Lib.hid (HD1.out.keep hb)
      replace H9 := Lib.hid (H9.out.keep hb)
      clear hb
      clear hw9
      refine (mix_any a L HAO.out.1 HAO.out.len HLB.out.1 HLB.out.len mask w9).mono ?_
      rintro e w10 ⟨rfl, hb⟩
      replace HB := Lib.hid (HB.out.trans (hb.mono HB.out.size))
      replace H4 := Lib.hid (H4.out.keep hb)
      replace HD1 := Lib.hid (HD1.out.keep hb)
      replace H9 := Lib.hid (H9.out.keep hb)
      clear hb
      have hm132 := bok_cells HMB.out
      have hm1 := blkC_one (mixB a L mask)
      obtain ⟨M, hM⟩ : ∃ M, M = mixB a L mask := ⟨_, rfl⟩
      rw [← hM] at HPL HMB hm132 hm1 ⊢
      clear hM
      go_wp2_with (first
        | (refine Agg.allocRow 36 (blkC zeroB).toArray rfl rfl (by kernel_rfl) ?_; simp only [Act.put, List.setIfInBounds_toArray, List.set_cons_succ, List.set_cons_zero])
        | (refine Agg.gStoreNew 132 (blkC M) rfl rfl rfl rfl rfl rfl (by decide +kernel) hm132 (by simp [zero132]) hm1 ?_; simp only [Act.put])
        | (refine Agg.gLoadB 132 (Blk.new _ _ (blkC M).toArray) hm132 rfl rfl rfl (by decide +kernel) ?_; simp only [Act.put, List.setIfInBounds_toArray, List.set_cons_succ, List.set_cons_zero]))
      refine Agg.calls_at fun w11 hw11 => ?_
      have hb : Below w10.heap.size w10 w11 := by rw [hw11.out]; repeat (first | exact Below.refl _ _ | refine Agg.bel_drew ?_ | refine Agg.bel_alloc ?_ _)
      replace HB := Lib.hid (HB.out.trans (hb.mono HB.out.size))
      replace H4 := Lib.hid (H4.out.keep hb)
      replace HD1 := Lib.hid (HD1.out.keep hb)
      replace H9 := Lib.hid (H9.out.keep hb)
      clear hb
      have H15 : Hid (Blk w11 w10.heap.size 36 (blkC M)) := by show Blk _ _ _ _; rw [hw11.out]; exact Blk.new w10 36 (blkC M).toArray
      clear hw11
      generalize w10.heap.size = g15 at *
      by_cases q15 : mask % 16 = 15
      · have hand : bits .and .i64 mask 15 = 15 := by rw [HM.out]; exact q15
        refine (read_any M HMB.out w11 k1 d1 N 0 (HPL.out.1 q15)).mono ?_
        rintro e w12 ⟨u, rfl, hou, hb⟩
        replace HB := Lib.hid (HB.out.trans (hb.mono HB.out.size))
        replace H4 := Lib.hid (H4.out.keep hb)
        replace HD1 := Lib.hid (HD1.out.keep hb)
        replace H9 := Lib.hid (H9.out.keep hb)
        replace H15 := Lib.hid (H15.out.keep hb)
        clear hb
        have HU : Hid (Bytes w12 u d1) := Lib.hid (own_bytes hou rfl)
        obtain ⟨xu, cu, rfl, _, _⟩ := (ownSl hou).shape
        clear hou q15
        have xH9_0 := H9.out.cell 0
        have xH9_1 := H9.out.cell 1
        have lH9 := H9.out.lt
        simp only [List.getElem?_cons_zero, List.getElem?_cons_succ] at xH9_0 xH9_1
        go_wp2_with fail
        refine Agg.calls_at fun w13 hw13 => ?_
        have hb : Below w12.heap.size w12 w13 := by rw [hw13.out]; repeat (first | exact Below.refl _ _ | refine Agg.bel_drew ?_ | refine Agg.bel_alloc ?_ _)
        replace HB := Lib.hid (HB.out.trans (hb.mono HB.out.size))
        replace HD1 := Lib.hid (HD1.out.keep hb)
        replace H9 := Lib.hid (H9.out.keep hb)
        replace HU := Lib.hid (HU.out.keep hb)
        clear hb
        clear hw13
        clear xH9_0 xH9_1 lH9
        refine (same_any k1 k1 d1 d1 _ _ w13 HD1.out HU.out true (by simp)).mono ?_
        rintro e w14 ⟨rfl, hb⟩
        replace HB := Lib.hid (HB.out.trans (hb.mono HB.out.size))
        replace HD1 := Lib.hid (HD1.out.keep hb)
        replace H9 := Lib.hid (H9.out.keep hb)
        replace HU := Lib.hid (HU.out.keep hb)
        clear hb
        go_wp2_with fail
        go_ret
        exact ⟨rfl, HB.out⟩
      · have hz4 := hz1
        by_cases q0 : mask % 16 = 0
        · have hand : bits .and .i64 mask 15 = 0 := by rw [HM.out]; exact q0
          obtain ⟨⟨⟨k2, d2⟩, n2, e2⟩, hr2⟩ : ∃ r, readR M = r := ⟨_, rfl⟩
          refine (read_any M HMB.out w11 k2 d2 n2 e2 hr2).mono ?_
          rintro e w15 ⟨u, rfl, hou, hb⟩
          replace HB := Lib.hid (HB.out.trans (hb.mono HB.out.size))
          replace H4 := Lib.hid (H4.out.keep hb)
          replace HD1 := Lib.hid (HD1.out.keep hb)
          replace H9 := Lib.hid (H9.out.keep hb)
          replace H15 := Lib.hid (H15.out.keep hb)
          clear hb
          obtain ⟨xu, cu, rfl, _, _⟩ := (ownSl hou).shape
          clear hou hr2
          have hMa := HPL.out.2.1 q0
          clear q0 q15
          go_upto_region 18 with (fail)
          refine Agg.wp_at fun w16 hw16 => ?_
          have hb : Below w15.heap.size w15 w16 := by rw [hw16.out]; repeat (first | exact Below.refl _ _ | refine Agg.bel_drew ?_ | refine Agg.bel_alloc ?_ _)
          replace HB := Lib.hid (HB.out.trans (hb.mono HB.out.size))
          replace H4 := Lib.hid (H4.out.keep hb)
          replace H15 := Lib.hid (H15.out.keep hb)
          clear hb
          clear hw16
          refine Agg.listR 4 (by kernel_rfl) ?_
          simp only [List.take_succ_cons, List.take_zero, List.drop_succ_cons, List.drop_zero]
          refine Agg.chRowB 132 H15 hm132 (by decide +kernel) rfl rfl rfl rfl ?_
          refine Agg.chRowB 132 H4 h132 (by decide +kernel) rfl rfl rfl rfl ?_
          refine Agg.chBin (v := .bool true) rfl rfl rfl rfl rfl (fun w => flatBlk.gd .eql _ _ _ _ w) (fun w => blk_eql _ _ HMB.out HAO.out true (by simp [hMa]) w) ?_
          refine Agg.chAssign rfl rfl rfl rfl ?_
          refine Agg.chEnd ?_
          intro vs w17 hb _
          show Exit.then _ _ Exit.normal _ _
          simp only [List.reverse, List.reverseAux, Agg.fill, List.set_cons_succ, List.set_cons_zero]
          replace HB := Lib.hid (HB.out.trans (hb.mono HB.out.size))
          replace H4 := Lib.hid (H4.out.keep hb)
          replace H15 := Lib.hid (H15.out.keep hb)
          clear hb
          go_wp2_with fail
          go_ret
          exact ⟨rfl, HB.out⟩
        · have hand := HM.out
          have hr := HPL.out.2.2 q15 q0
          have hb15 : (mask % 16 == 15) = false := by simpa using q15
          have hb0 : (mask % 16 == 0) = false := by simpa using q0
          refine (read_any M HMB.out w11 0 [] 0 270 hr).mono ?_
          rintro e w18 ⟨u, rfl, hou, hb⟩
          replace HB := Lib.hid (HB.out.trans (hb.mono HB.out.size))
          replace H4 := Lib.hid (H4.out.keep hb)
          replace HD1 := Lib.hid (HD1.out.keep hb)
          replace H9 := Lib.hid (H9.out.keep hb)
          replace H15 := Lib.hid (H15.out.keep hb)
          clear hb
          have HU : Hid (Bytes w18 u []) := Lib.hid (own_bytes hou rfl)
          obtain ⟨xu, cu, rfl, _, _⟩ := (ownSl hou).shape
          clear hou q15 q0 hr
          generalize mask % 16 = m4 at *
          go_wp2_with (refine Agg.gBuild0 (.agg #[.int .i64 0, .slice none 0 0]) rfl rfl (fun _ => by kernel_rfl) ?_; simp only [Act.put, List.setIfInBounds_toArray, List.set_cons_succ, List.set_cons_zero])
          refine Agg.calls_at fun w19 hw19 => ?_
          have hb : Below w18.heap.size w18 w19 := by rw [hw19.out]; repeat (first | exact Below.refl _ _ | refine Agg.bel_drew ?_ | refine Agg.bel_alloc ?_ _)
          replace HB := Lib.hid (HB.out.trans (hb.mono HB.out.size))
          replace HU := Lib.hid (HU.out.keep hb)
          clear hb
          clear hw19
          refine (same_any 0 0 [] [] _ _ w19 HU.out (SlR.nil _ _) true (by simp)).mono ?_
          rintro e w20 ⟨rfl, hb⟩
          replace HB := Lib.hid (HB.out.trans (hb.mono HB.out.size))
          replace HU := Lib.hid (HU.out.keep hb)
          clear hb
          go_wp2_with fail
          go_ret
          exact ⟨rfl, HB.out⟩
    · have hz3 := hz1
      clear xH9_0 xH9_1 lH9
      refine (check_any k1 d1 _ w5 HD1.out 2 (if_neg hp)).mono ?_
      rintro e w21 ⟨rfl, hb⟩
      replace HB := Lib.hid (HB.out.trans (hb.mono HB.out.size))
      replace H4 := Lib.hid (H4.out.keep hb)
      replace HD1 := Lib.hid (HD1.out.keep hb)
      replace H9 := Lib.hid (H9.out.keep hb)
      clear hb
      clear hp
      have xH9_0 := H9.out.cell 0
      have xH9_1 := H9.out.cell 1
      have lH9 := H9.out.lt
      simp only [List.getElem?_cons_zero, List.getElem?_cons_succ] at xH9_0 xH9_1
      go_wp2_with fail
      clear xH9_0 xH9_1 lH9
      refine (layP_any k1 d1 0 _ w21 HD1.out zeroB 2 (if_neg (fun h => by have := h.2.1; omega))).mono ?_
      rintro e w22 ⟨rfl, hb⟩
      replace HB := Lib.hid (HB.out.trans (hb.mono HB.out.size))
      replace H4 := Lib.hid (H4.out.keep hb)
      replace HD1 := Lib.hid (HD1.out.keep hb)
      replace H9 := Lib.hid (H9.out.keep hb)
      clear hb
      go_wp2_with (first
        | (refine Agg.allocRow 36 (blkC zeroB).toArray rfl rfl (by kernel_rfl) ?_; simp only [Act.put, List.setIfInBounds_toArray, List.set_cons_succ, List.set_cons_zero])
        | (refine Agg.gStoreNew 132 (blkC zeroB) rfl rfl rfl rfl rfl rfl (by decide +kernel) zero132 (by simp [zero132]) hz1 ?_; simp only [Act.put]))
      go_ret
      exact ⟨rfl, bel_alloc HB.out _⟩
theorem u16_wf {z : Int} (h : (Lit.int .u16 z).wf = true) : ∃ n : Nat, z = (n : Int) ∧ n < 65536 := by
  simp only [Lit.wf, Bool.and_eq_true, IntKind.min, IntKind.max, IntKind.signed, IntKind.bits] at h
  have h2 : 0 ≤ z ∧ z ≤ 65535 := by simpa using h
  exact ⟨z.toNat, by omega, by omega⟩
theorem PageTorn_walk (c0 : Array Value) (f0 : Nat) (c1 : Array Value) (f1 : Nat) (z : Int) (mask : Int) (w : World) (h0 : Agg.Good Try.prog w f0 36 c0.toList) (h1 : Agg.Good Try.prog w f1 24 c1.toList) (hz : (Lit.int .u16 z).wf = true) (_ : (Lit.int .i64 mask).wf = true) :
    Calls Try.prog 8 #[.agg c0, .agg c1, .int .u16 z, .int .i64 mask] w fun e w' => e = .returned (.bool true) ∧ Below w.heap.size w w' := by
  obtain ⟨a, h3, h4⟩ := good_block h0
  obtain rfl : c0 = (blkC a).toArray := Array.toList_inj.1 h3
  obtain ⟨k1, v1, x1, rfl, q1, _, _⟩ := good_page h1
  obtain ⟨n, rfl, hn⟩ := u16_wf hz
  exact torn_any a h4 k1 x1 v1 n hn mask w q1
end Go.Proofs.Ytoeofoihkkhpfaa
