/-
  PAGES: wakes.
-/
import Derived.Test.YtoeofoihkkhpfaaPgF
import Derived.Test.YtoeofoihkkhpfaaPgG
namespace Go.Proofs.Ytoeofoihkkhpfaa
open Go.ChangeShapes Go.WideShapes Go.ChangeAt Go.RowKit Agg Pg

theorem mixB_bok {a b : List Sec} (ha : BOk a) (hb : BOk b) (mask : Int) : BOk (mixB a b mask) := by
  rw [← mixTo_all]
  exact ⟨mixTo_length _ _ _ _, fun s hs => (mixTo_mem a b ha.1 hb.1 mask 4 s hs).elim (ha.2 s) (hb.2 s)⟩
theorem mix_15 (n m : Nat) (l k : List UInt8) : mixB (secsOf n l) (secsOf m k) 15 = secsOf m k := by
  simp [mixB, secsOf, List.range, List.range.loop]
theorem mix_5 (l k : List UInt8) : stampB (mixB (secsOf 7 l) (secsOf 9 k) 5) = false := by
  simp [mixB, secsOf, List.range, List.range.loop, stampB, st0]
theorem wk : ∃ a b, layR 2 [1, 2, 3] 7 = (a, 0) ∧ layR 2 [1, 2, 3] 9 = (b, 0) ∧ BOk a ∧ BOk b ∧ readR (mixB a b 15) = ((2, [1, 2, 3]), 9, 0) ∧ readR (mixB a b 5) = ((0, []), 0, 270) ∧ (blkC a)[1]? = some (.int .u8 2) := by
  have hp : pageP 2 [1, 2, 3] := by decide
  have h7 : stampP 7 := by decide
  have h9 : stampP 9 := by decide
  refine ⟨layB 2 [1, 2, 3] 7, layB 2 [1, 2, 3] 9, if_pos ⟨hp, h7⟩, if_pos ⟨hp, h9⟩, layB_bok _ _ _ (by decide) h7, layB_bok _ _ _ (by decide) h9, ?_, ?_, ?_⟩
  · unfold layB
    rw [mix_15]
    exact read_lay 2 [1, 2, 3] 9 hp h9
  · unfold layB
    rw [readR, if_neg (by rw [mix_5]; decide)]
  · rfl
set_option maxHeartbeats 4000000 in
set_option maxRecDepth 100000 in
theorem wakes_any (w : World) :
    Calls Try.prog 10 #[] w fun e w' => e = .returned (.bool true) ∧ Below w.heap.size w w' := by
  obtain ⟨a, b, ha, hb, hao, hbo, h15, h5, h1⟩ := wk
  have HA := Lib.hid ha
  have HBB := Lib.hid hb
  have HAO := Lib.hid hao
  have HBO := Lib.hid hbo
  have H15 := Lib.hid h15
  have H5 := Lib.hid h5
  have HA1 := Lib.hid h1
  have hla := bok_cells hao
  have hlb := bok_cells hbo
  have h1a := blkC_one a
  have h1b := blkC_one b
  clear ha hb hao hbo h15 h5 h1
  have HB := Lib.hid (Below.refl w.heap.size w)
  go_enter Try.func10, Try.ntmps10
  go_wp2_with fail
  refine Agg.calls_at fun w1 hw1 => ?_
  have hb : Below w.heap.size w w1 := by rw [hw1.out]; repeat (first | exact Below.refl _ _ | refine Agg.bel_drew ?_ | refine Agg.bel_alloc ?_ _)
  replace HB := Lib.hid (HB.out.trans (hb.mono HB.out.size))
  clear hb
  have HD : Hid (Bytes w1 (.slice (some ⟨w.heap.size, 0, none⟩) 3 3) [1, 2, 3]) := by
    show SlR _ _ _ _ _
    rw [hw1.out]
    exact SlR.keep (sl_new w #[.int .u8 1, .int .u8 2, .int .u8 3] 5 3 1 rfl (by decide)) (bel_alloc (Below.refl _ _) _)
  have HP : Hid (Blk w1 (w.heap.size + 1) 24 [.int .i64 2, .slice (some ⟨w.heap.size, 0, none⟩) 3 3]) := by show Blk _ _ _ _; rw [hw1.out]; exact Blk.newAt (w.alloc _) 24 #[.int .i64 2, .slice (some ⟨w.heap.size, 0, none⟩) 3 3] _ (by simp)
  clear hw1
  refine (layP_any 2 [1, 2, 3] 7 _ w1 HD.out a 0 HA.out).mono ?_
  rintro e w2 ⟨rfl, hb⟩
  replace HB := Lib.hid (HB.out.trans (hb.mono HB.out.size))
  replace HD := Lib.hid (HD.out.keep hb)
  replace HP := Lib.hid (HP.out.keep hb)
  clear hb
  have xHP_0 := HP.out.cell 0
  have xHP_1 := HP.out.cell 1
  have lHP := HP.out.lt
  simp only [List.getElem?_cons_zero, List.getElem?_cons_succ] at xHP_0 xHP_1
  go_wp2_with (first
    | (refine Agg.allocRow 36 (blkC zeroB).toArray rfl rfl (by kernel_rfl) ?_; simp only [Act.put, List.setIfInBounds_toArray, List.set_cons_succ, List.set_cons_zero])
    | (refine Agg.gStoreNew 132 (blkC a) rfl rfl rfl rfl rfl rfl (by decide +kernel) hla (by simp [zero132]) h1a ?_; simp only [Act.put]))
  refine Agg.calls_at fun w3 hw3 => ?_
  have hb : Below w2.heap.size w2 w3 := by rw [hw3.out]; repeat (first | exact Below.refl _ _ | refine Agg.bel_drew ?_ | refine Agg.bel_alloc ?_ _)
  replace HB := Lib.hid (HB.out.trans (hb.mono HB.out.size))
  replace HD := Lib.hid (HD.out.keep hb)
  replace HP := Lib.hid (HP.out.keep hb)
  clear hb
  have H2 : Hid (Blk w3 w2.heap.size 36 (blkC a)) := by show Blk _ _ _ _; rw [hw3.out]; exact Blk.new w2 36 (blkC a).toArray
  clear hw3
  generalize w2.heap.size = ga at *
  clear xHP_0 xHP_1 lHP
  refine (layP_any 2 [1, 2, 3] 9 _ w3 HD.out b 0 HBB.out).mono ?_
  rintro e w4 ⟨rfl, hb⟩
  replace HB := Lib.hid (HB.out.trans (hb.mono HB.out.size))
  replace HD := Lib.hid (HD.out.keep hb)
  replace HP := Lib.hid (HP.out.keep hb)
  replace H2 := Lib.hid (H2.out.keep hb)
  clear hb
  have h2 := H2.out
  go_wp2_with (first
    | (refine Agg.allocRow 36 (blkC zeroB).toArray rfl rfl (by kernel_rfl) ?_; simp only [Act.put, List.setIfInBounds_toArray, List.set_cons_succ, List.set_cons_zero])
    | (refine Agg.gStoreNew 132 (blkC b) rfl rfl rfl rfl rfl rfl (by decide +kernel) hlb (by simp [zero132]) h1b ?_; simp only [Act.put])
    | (refine Agg.gLoadB 132 (h2.al _) hla rfl rfl rfl (by decide +kernel) ?_; simp only [Act.put, List.setIfInBounds_toArray, List.set_cons_succ, List.set_cons_zero])
    | (refine Agg.gLoadB 132 (Blk.new _ _ (blkC b).toArray) hlb rfl rfl rfl (by decide +kernel) ?_; simp only [Act.put, List.setIfInBounds_toArray, List.set_cons_succ, List.set_cons_zero]))
  clear h2
  refine Agg.calls_at fun w5 hw5 => ?_
  have hb : Below w4.heap.size w4 w5 := by rw [hw5.out]; repeat (first | exact Below.refl _ _ | refine Agg.bel_drew ?_ | refine Agg.bel_alloc ?_ _)
  replace HB := Lib.hid (HB.out.trans (hb.mono HB.out.size))
  replace HD := Lib.hid (HD.out.keep hb)
  replace HP := Lib.hid (HP.out.keep hb)
  replace H2 := Lib.hid (H2.out.keep hb)
  clear hb
  have H3 : Hid (Blk w5 w4.heap.size 36 (blkC b)) := by show Blk _ _ _ _; rw [hw5.out]; exact Blk.new w4 36 (blkC b).toArray
  clear hw5
  generalize w4.heap.size = gb at *
  refine (mix_any a b HAO.out.1 HAO.out.len HBO.out.1 HBO.out.len 15 w5).mono ?_
  rintro e w6 ⟨rfl, hb⟩
  replace HB := Lib.hid (HB.out.trans (hb.mono HB.out.size))
  replace HD := Lib.hid (HD.out.keep hb)
  replace HP := Lib.hid (HP.out.keep hb)
  replace H2 := Lib.hid (H2.out.keep hb)
  replace H3 := Lib.hid (H3.out.keep hb)
  clear hb
  go_wp2_with fail
  refine (read_any (mixB a b 15) (mixB_bok HAO.out HBO.out 15) w6 2 [1, 2, 3] 9 0 H15.out).mono ?_
  rintro e w7 ⟨u, rfl, hou, hb⟩
  replace HB := Lib.hid (HB.out.trans (hb.mono HB.out.size))
  replace HD := Lib.hid (HD.out.keep hb)
  replace HP := Lib.hid (HP.out.keep hb)
  replace H2 := Lib.hid (H2.out.keep hb)
  replace H3 := Lib.hid (H3.out.keep hb)
  clear hb
  have HU : Hid (Bytes w7 u [1, 2, 3]) := Lib.hid (own_bytes hou rfl)
  obtain ⟨xu, cu, rfl, _, _⟩ := (ownSl hou).shape
  clear hou
  have h2 := H2.out
  have h3 := H3.out
  go_wp2_with (first
    | (refine Agg.gLoadB 132 (h2.al _) hla rfl rfl rfl (by decide +kernel) ?_; simp only [Act.put, List.setIfInBounds_toArray, List.set_cons_succ, List.set_cons_zero])
    | (refine Agg.gLoadB 132 (h3.al _) hlb rfl rfl rfl (by decide +kernel) ?_; simp only [Act.put, List.setIfInBounds_toArray, List.set_cons_succ, List.set_cons_zero]))
  clear h2 h3
  refine Agg.calls_at fun w8 hw8 => ?_
  have hb : Below w7.heap.size w7 w8 := by rw [hw8.out]; repeat (first | exact Below.refl _ _ | refine Agg.bel_drew ?_ | refine Agg.bel_alloc ?_ _)
  replace HB := Lib.hid (HB.out.trans (hb.mono HB.out.size))
  replace HD := Lib.hid (HD.out.keep hb)
  replace HP := Lib.hid (HP.out.keep hb)
  replace H2 := Lib.hid (H2.out.keep hb)
  replace H3 := Lib.hid (H3.out.keep hb)
  replace HU := Lib.hid (HU.out.keep hb)
  clear hb
  have H6 : Hid (Blk w8 w7.heap.size 24 [.int .i64 2, .slice xu 3 cu]) := by show Blk _ _ _ _; rw [hw8.out]; exact Blk.new w7 24 #[.int .i64 2, .slice xu 3 cu]
  clear hw8
  generalize w7.heap.size = g6 at *
  refine (mix_any a b HAO.out.1 HAO.out.len HBO.out.1 HBO.out.len 5 w8).mono ?_
  rintro e w9 ⟨rfl, hb⟩
  replace HB := Lib.hid (HB.out.trans (hb.mono HB.out.size))
  replace HD := Lib.hid (HD.out.keep hb)
  replace HP := Lib.hid (HP.out.keep hb)
  replace H2 := Lib.hid (H2.out.keep hb)
  replace H3 := Lib.hid (H3.out.keep hb)
  replace HU := Lib.hid (HU.out.keep hb)
  replace H6 := Lib.hid (H6.out.keep hb)
  clear hb
  go_wp2_with fail
  refine (read_any (mixB a b 5) (mixB_bok HAO.out HBO.out 5) w9 0 [] 0 270 H5.out).mono ?_
  rintro e w10 ⟨u5, rfl, hou, hb⟩
  replace HB := Lib.hid (HB.out.trans (hb.mono HB.out.size))
  replace HD := Lib.hid (HD.out.keep hb)
  replace HP := Lib.hid (HP.out.keep hb)
  replace H2 := Lib.hid (H2.out.keep hb)
  replace H3 := Lib.hid (H3.out.keep hb)
  replace HU := Lib.hid (HU.out.keep hb)
  replace H6 := Lib.hid (H6.out.keep hb)
  clear hb
  obtain ⟨x5, c5, rfl, _, _⟩ := (ownSl hou).shape
  clear hou
  have xHP_0 := HP.out.cell 0
  have xHP_1 := HP.out.cell 1
  have lHP := HP.out.lt
  simp only [List.getElem?_cons_zero, List.getElem?_cons_succ] at xHP_0 xHP_1
  have xH6_0 := H6.out.cell 0
  have xH6_1 := H6.out.cell 1
  have lH6 := H6.out.lt
  simp only [List.getElem?_cons_zero, List.getElem?_cons_succ] at xH6_0 xH6_1
  go_wp2_with fail
  refine Agg.calls_at fun w11 hw11 => ?_
  have hb : Below w10.heap.size w10 w11 := by rw [hw11.out]; repeat (first | exact Below.refl _ _ | refine Agg.bel_drew ?_ | refine Agg.bel_alloc ?_ _)
  replace HB := Lib.hid (HB.out.trans (hb.mono HB.out.size))
  replace HD := Lib.hid (HD.out.keep hb)
  replace HP := Lib.hid (HP.out.keep hb)
  replace H2 := Lib.hid (H2.out.keep hb)
  replace H3 := Lib.hid (H3.out.keep hb)
  replace HU := Lib.hid (HU.out.keep hb)
  replace H6 := Lib.hid (H6.out.keep hb)
  clear hb
  clear hw11
  clear xHP_0 xHP_1 lHP xH6_0 xH6_1 lH6
  refine (same_any 2 2 [1, 2, 3] [1, 2, 3] _ _ w11 HD.out HU.out true (by simp)).mono ?_
  rintro e w12 ⟨rfl, hb⟩
  replace HB := Lib.hid (HB.out.trans (hb.mono HB.out.size))
  replace HD := Lib.hid (HD.out.keep hb)
  replace HP := Lib.hid (HP.out.keep hb)
  replace H2 := Lib.hid (H2.out.keep hb)
  replace H3 := Lib.hid (H3.out.keep hb)
  replace HU := Lib.hid (HU.out.keep hb)
  replace H6 := Lib.hid (H6.out.keep hb)
  clear hb
  have hca : w12.cell? ⟨ga, 1, none⟩ = some (.int .u8 2) := by rw [H2.out.cell]; exact HA1.out
  go_wp2_with fail
  go_ret
  exact ⟨rfl, HB.out⟩
end Go.Proofs.Ytoeofoihkkhpfaa
