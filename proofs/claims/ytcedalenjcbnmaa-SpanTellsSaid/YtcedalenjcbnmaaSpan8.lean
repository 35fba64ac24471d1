/-
  THE WALKS OF LAYER 4 (span), eighth part: wakes.
-/
import Derived.Test.YtcedalenjcbnmaaSpan7
namespace Go.Proofs.Ytcedalenjcbnmaa
open Go.ChangeShapes Go.WideShapes Go.ChangeAt Go.RowKit Agg

theorem Least_two (a b c d : Int) (w : World) (g : Nat) (hg : g = w.heap.size) (r : Sp) (er : Int) (hr : tog leastF [(a, b), (c, d)] = (r, er)) :
    Calls Try.prog 19 #[.slice (some ⟨g, 0, none⟩) 2 2] (w.alloc (.cells #[.int .i64 a, .int .i64 b, .int .i64 c, .int .i64 d] 31)) fun e w' => e = .returned (.tuple #[.agg #[.int .i64 r.1, .int .i64 r.2], .int .i64 er]) ∧ Below w.heap.size w w' :=
  (Least_any _ _ _ (spans_two w a b c d g hg) (by simp) r er hr).mono fun _ _ ⟨h1, h2⟩ => ⟨h1, (bel_alloc (Below.refl _ w) _).trans (h2.mono (by simp))⟩
theorem Most_two (a b c d : Int) (w : World) (g : Nat) (hg : g = w.heap.size) (r : Sp) (er : Int) (hr : tog mostF [(a, b), (c, d)] = (r, er)) :
    Calls Try.prog 20 #[.slice (some ⟨g, 0, none⟩) 2 2] (w.alloc (.cells #[.int .i64 a, .int .i64 b, .int .i64 c, .int .i64 d] 31)) fun e w' => e = .returned (.tuple #[.agg #[.int .i64 r.1, .int .i64 r.2], .int .i64 er]) ∧ Below w.heap.size w w' :=
  (Most_any _ _ _ (spans_two w a b c d g hg) (by simp) r er hr).mono fun _ _ ⟨h1, h2⟩ => ⟨h1, (bel_alloc (Below.refl _ w) _).trans (h2.mono (by simp))⟩
theorem Join_two (a b c d : Int) (w : World) (g : Nat) (hg : g = w.heap.size) (r : Sp) (er : Int) (hr : tog joinF [(a, b), (c, d)] = (r, er)) :
    Calls Try.prog 21 #[.slice (some ⟨g, 0, none⟩) 2 2] (w.alloc (.cells #[.int .i64 a, .int .i64 b, .int .i64 c, .int .i64 d] 31)) fun e w' => e = .returned (.tuple #[.agg #[.int .i64 r.1, .int .i64 r.2], .int .i64 er]) ∧ Below w.heap.size w w' :=
  (Join_any _ _ _ (spans_two w a b c d g hg) (by simp) r er hr).mono fun _ _ ⟨h1, h2⟩ => ⟨h1, (bel_alloc (Below.refl _ w) _).trans (h2.mono (by simp))⟩
theorem Meet_two (a b c d : Int) (w : World) (g : Nat) (hg : g = w.heap.size) (r : Sp) (er : Int) (hr : tog meetF [(a, b), (c, d)] = (r, er)) :
    Calls Try.prog 23 #[.slice (some ⟨g, 0, none⟩) 2 2] (w.alloc (.cells #[.int .i64 a, .int .i64 b, .int .i64 c, .int .i64 d] 31)) fun e w' => e = .returned (.tuple #[.agg #[.int .i64 r.1, .int .i64 r.2], .int .i64 er]) ∧ Below w.heap.size w w' :=
  (Meet_any _ _ _ (spans_two w a b c d g hg) (by simp) r er hr).mono fun _ _ ⟨h1, h2⟩ => ⟨h1, (bel_alloc (Below.refl _ w) _).trans (h2.mono (by simp))⟩
theorem Plus_two (a b c d : Int) (w : World) (g : Nat) (hg : g = w.heap.size) (hI : ∀ s ∈ [(a, b), (c, d)], I64 s.1 ∧ I64 s.2) (r : Sp) (er : Int) (hr : plusR [(a, b), (c, d)] = (r, er)) :
    Calls Try.prog 15 #[.slice (some ⟨g, 0, none⟩) 2 2] (w.alloc (.cells #[.int .i64 a, .int .i64 b, .int .i64 c, .int .i64 d] 31)) fun e w' => e = .returned (.tuple #[.agg #[.int .i64 r.1, .int .i64 r.2], .int .i64 er]) ∧ Below w.heap.size w w' :=
  (Plus_any _ _ _ (spans_two w a b c d g hg) (by simp) hI r er hr).mono fun _ _ ⟨h1, h2⟩ => ⟨h1, (bel_alloc (Below.refl _ w) _).trans (h2.mono (by simp))⟩

set_option maxHeartbeats 2000000 in
theorem wakes_any (w : World) :
    Calls Try.prog 11 #[] w fun e w' => e = .returned (.bool true) ∧ Below w.heap.size w w' := by
  have HB := Lib.hid (Below.refl w.heap.size w)
  go_enter Try.func11, Try.ntmps11
  go_wp2_with fail
  refine Agg.calls_at2 fun w1 hw1 => ?_
  have hb : Below w.heap.size w w1 := by rw [hw1.out]; repeat (first | exact Below.refl _ _ | refine Agg.bel_drew ?_ | refine Agg.bel_alloc ?_ _)
  replace HB := Lib.hid (HB.out.trans (hb.mono HB.out.size))
  clear hb
  have H1 : Hid (Blk w1 w.heap.size 31 [.int .i64 1, .int .i64 5]) := by show Blk _ _ _ _; rw [hw1.out]; exact (Blk.new w 31 #[.int .i64 1, .int .i64 5]).al _
  have H2 : Hid (Blk w1 (w.heap.size + 1) 31 [.int .i64 3, .int .i64 4]) := by show Blk _ _ _ _; rw [hw1.out]; exact Blk.newAt (w.alloc _) 31 #[.int .i64 3, .int .i64 4] _ (by simp)
  refine (Least_two 1 5 3 4 w1 _ (by rw [hw1.out]; simp) (1, 4) 0 (by decide)).mono ?_
  rintro e w2 ⟨rfl, hb⟩
  replace HB := Lib.hid (HB.out.trans (hb.mono HB.out.size))
  replace H1 := Lib.hid (H1.out.keep hb)
  replace H2 := Lib.hid (H2.out.keep hb)
  clear hb
  have xH1_0 := H1.out.cell 0
  have xH1_1 := H1.out.cell 1
  have lH1 := H1.out.lt
  simp only [List.getElem?_cons_zero, List.getElem?_cons_succ] at xH1_0 xH1_1
  have xH2_0 := H2.out.cell 0
  have xH2_1 := H2.out.cell 1
  have lH2 := H2.out.lt
  simp only [List.getElem?_cons_zero, List.getElem?_cons_succ] at xH2_0 xH2_1
  go_wp2_with fail
  refine Agg.calls_at2 fun w3 hw3 => ?_
  have hb : Below w2.heap.size w2 w3 := by rw [hw3.out]; repeat (first | exact Below.refl _ _ | refine Agg.bel_drew ?_ | refine Agg.bel_alloc ?_ _)
  replace HB := Lib.hid (HB.out.trans (hb.mono HB.out.size))
  replace H1 := Lib.hid (H1.out.keep hb)
  replace H2 := Lib.hid (H2.out.keep hb)
  clear hb
  have H3 : Hid (Blk w3 w2.heap.size 31 [.int .i64 1, .int .i64 4]) := by show Blk _ _ _ _; rw [hw3.out]; exact Blk.new w2 31 #[.int .i64 1, .int .i64 4]
  clear xH1_0 xH1_1 lH1 xH2_0 xH2_1 lH2
  refine (Most_two 1 5 3 4 w3 _ (by rw [hw3.out]; simp) (3, 5) 0 (by decide)).mono ?_
  rintro e w4 ⟨rfl, hb⟩
  replace HB := Lib.hid (HB.out.trans (hb.mono HB.out.size))
  replace H1 := Lib.hid (H1.out.keep hb)
  replace H2 := Lib.hid (H2.out.keep hb)
  replace H3 := Lib.hid (H3.out.keep hb)
  clear hb
  have xH1_0 := H1.out.cell 0
  have xH1_1 := H1.out.cell 1
  have lH1 := H1.out.lt
  simp only [List.getElem?_cons_zero, List.getElem?_cons_succ] at xH1_0 xH1_1
  have xH2_0 := H2.out.cell 0
  have xH2_1 := H2.out.cell 1
  have lH2 := H2.out.lt
  simp only [List.getElem?_cons_zero, List.getElem?_cons_succ] at xH2_0 xH2_1
  go_wp2_with fail
  refine Agg.calls_at2 fun w5 hw5 => ?_
  have hb : Below w4.heap.size w4 w5 := by rw [hw5.out]; repeat (first | exact Below.refl _ _ | refine Agg.bel_drew ?_ | refine Agg.bel_alloc ?_ _)
  replace HB := Lib.hid (HB.out.trans (hb.mono HB.out.size))
  replace H1 := Lib.hid (H1.out.keep hb)
  replace H2 := Lib.hid (H2.out.keep hb)
  replace H3 := Lib.hid (H3.out.keep hb)
  clear hb
  have H5 : Hid (Blk w5 w4.heap.size 31 [.int .i64 3, .int .i64 5]) := by show Blk _ _ _ _; rw [hw5.out]; exact Blk.new w4 31 #[.int .i64 3, .int .i64 5]
  clear xH1_0 xH1_1 lH1 xH2_0 xH2_1 lH2
  refine (Plus_two 1 5 3 4 w5 _ (by rw [hw5.out]; simp) (by decide) (4, 9) 0 (by decide)).mono ?_
  rintro e w6 ⟨rfl, hb⟩
  replace HB := Lib.hid (HB.out.trans (hb.mono HB.out.size))
  replace H1 := Lib.hid (H1.out.keep hb)
  replace H2 := Lib.hid (H2.out.keep hb)
  replace H3 := Lib.hid (H3.out.keep hb)
  replace H5 := Lib.hid (H5.out.keep hb)
  clear hb
  have xH1_0 := H1.out.cell 0
  have xH1_1 := H1.out.cell 1
  have lH1 := H1.out.lt
  simp only [List.getElem?_cons_zero, List.getElem?_cons_succ] at xH1_0 xH1_1
  have xH2_0 := H2.out.cell 0
  have xH2_1 := H2.out.cell 1
  have lH2 := H2.out.lt
  simp only [List.getElem?_cons_zero, List.getElem?_cons_succ] at xH2_0 xH2_1
  go_wp2_with fail
  refine Agg.calls_at fun w7 hw7 => ?_
  have hb : Below w6.heap.size w6 w7 := by rw [hw7.out]; repeat (first | exact Below.refl _ _ | refine Agg.bel_drew ?_ | refine Agg.bel_alloc ?_ _)
  replace HB := Lib.hid (HB.out.trans (hb.mono HB.out.size))
  replace H1 := Lib.hid (H1.out.keep hb)
  replace H2 := Lib.hid (H2.out.keep hb)
  replace H3 := Lib.hid (H3.out.keep hb)
  replace H5 := Lib.hid (H5.out.keep hb)
  clear hb
  have H7 : Hid (Blk w7 w6.heap.size 31 [.int .i64 4, .int .i64 9]) := by show Blk _ _ _ _; rw [hw7.out]; exact Blk.new w6 31 #[.int .i64 4, .int .i64 9]
  clear hw7
  clear xH1_0 xH1_1 lH1 xH2_0 xH2_1 lH2
  refine (times_any 1 5 (-3) w7 (by decide) (by decide) (by decide) (-15, -3) 0 (by decide)).mono ?_
  rintro e w8 ⟨rfl, hb⟩
  replace HB := Lib.hid (HB.out.trans (hb.mono HB.out.size))
  replace H1 := Lib.hid (H1.out.keep hb)
  replace H2 := Lib.hid (H2.out.keep hb)
  replace H3 := Lib.hid (H3.out.keep hb)
  replace H5 := Lib.hid (H5.out.keep hb)
  replace H7 := Lib.hid (H7.out.keep hb)
  clear hb
  have xH1_0 := H1.out.cell 0
  have xH1_1 := H1.out.cell 1
  have lH1 := H1.out.lt
  simp only [List.getElem?_cons_zero, List.getElem?_cons_succ] at xH1_0 xH1_1
  have xH2_0 := H2.out.cell 0
  have xH2_1 := H2.out.cell 1
  have lH2 := H2.out.lt
  simp only [List.getElem?_cons_zero, List.getElem?_cons_succ] at xH2_0 xH2_1
  go_wp2_with fail
  refine Agg.calls_at2 fun w9 hw9 => ?_
  have hb : Below w8.heap.size w8 w9 := by rw [hw9.out]; repeat (first | exact Below.refl _ _ | refine Agg.bel_drew ?_ | refine Agg.bel_alloc ?_ _)
  replace HB := Lib.hid (HB.out.trans (hb.mono HB.out.size))
  replace H1 := Lib.hid (H1.out.keep hb)
  replace H2 := Lib.hid (H2.out.keep hb)
  replace H3 := Lib.hid (H3.out.keep hb)
  replace H5 := Lib.hid (H5.out.keep hb)
  replace H7 := Lib.hid (H7.out.keep hb)
  clear hb
  have H9 : Hid (Blk w9 w8.heap.size 31 [.int .i64 (-15), .int .i64 (-3)]) := by show Blk _ _ _ _; rw [hw9.out]; exact Blk.new w8 31 #[.int .i64 (-15), .int .i64 (-3)]
  clear xH1_0 xH1_1 lH1 xH2_0 xH2_1 lH2
  refine (Join_two 3 4 9 9 w9 _ (by rw [hw9.out]; simp) (3, 9) 0 (by decide)).mono ?_
  rintro e w10 ⟨rfl, hb⟩
  replace HB := Lib.hid (HB.out.trans (hb.mono HB.out.size))
  replace H1 := Lib.hid (H1.out.keep hb)
  replace H2 := Lib.hid (H2.out.keep hb)
  replace H3 := Lib.hid (H3.out.keep hb)
  replace H5 := Lib.hid (H5.out.keep hb)
  replace H7 := Lib.hid (H7.out.keep hb)
  replace H9 := Lib.hid (H9.out.keep hb)
  clear hb
  go_wp2_with fail
  refine Agg.wp_at fun w11 hw11 => ?_
  have hb : Below w10.heap.size w10 w11 := by rw [hw11.out]; repeat (first | exact Below.refl _ _ | refine Agg.bel_drew ?_ | refine Agg.bel_alloc ?_ _)
  replace HB := Lib.hid (HB.out.trans (hb.mono HB.out.size))
  replace H1 := Lib.hid (H1.out.keep hb)
  replace H2 := Lib.hid (H2.out.keep hb)
  replace H3 := Lib.hid (H3.out.keep hb)
  replace H5 := Lib.hid (H5.out.keep hb)
  replace H7 := Lib.hid (H7.out.keep hb)
  replace H9 := Lib.hid (H9.out.keep hb)
  clear hb
  have H11 : Hid (Blk w11 w10.heap.size 31 [.int .i64 3, .int .i64 9]) := by show Blk _ _ _ _; rw [hw11.out]; exact Blk.new w10 31 #[.int .i64 3, .int .i64 9]
  clear hw11
  refine Agg.chainR 8 (by kernel_rfl) (by kernel_rfl) ?_
  simp only [List.take_succ_cons, List.take_zero, List.drop_succ_cons, List.drop_zero]
  refine Agg.chRowB 2 H2.out rfl (by decide +kernel) rfl rfl rfl rfl ?_
  refine Agg.chCall Try.func28 rfl (by kernel_rfl) rfl rfl rfl rfl (fun W _ => point_any 5 W) ?_
  refine Agg.chBuildSlice (e := 31) #[.int .i64 3, .int .i64 4, .int .i64 5, .int .i64 5] rfl rfl rfl rfl (fun _ => by kernel_rfl) ?_
  refine Agg.chCall1 Try.func23 rfl (by kernel_rfl) (.tuple #[.agg #[.int .i64 0, .int .i64 0], .int .i64 9]) 2 rfl rfl rfl rfl rfl rfl (fun u W _ hg => Meet_any [(3, 4), (5, 5)] u W (hg.sl rfl (by decide)) (by simp) (0, 0) 9 (by decide)) ?_
  refine Agg.chMove rfl rfl rfl rfl ?_
  refine Agg.chExtract rfl rfl rfl rfl rfl ?_
  refine Agg.chExtract rfl rfl rfl rfl rfl ?_
  refine Agg.chAlloc #[.int .i64 0, .int .i64 0] rfl (by kernel_rfl) rfl rfl ?_
  refine Agg.chEnd ?_
  intro vs w12 hb hf
  simp only [List.reverse, List.reverseAux, Agg.Facts] at hf
  obtain ⟨_, ⟨b, hv7, hbb, hblk⟩, _⟩ := hf
  simp only [List.reverse, List.reverseAux, Agg.fill, List.set_cons_succ, List.set_cons_zero, hv7]
  refine Agg.tStore 2 hblk rfl rfl rfl rfl rfl (by decide +kernel) rfl rfl (by simp [Value.oneCell']) (fun w13 hblk2 hgr => ?_)
  replace HB := Lib.hid ((HB.out.trans (hb.mono HB.out.size)).trans (Agg.grown_below hgr (HB.out.trans (hb.mono HB.out.size)).size (fun k hk => by cases hk; exact Nat.le_trans HB.out.size hbb)))
  replace H1 := Lib.hid ((H1.out.keep hb).grown hgr (Nat.ne_of_lt (Nat.lt_of_lt_of_le H1.out.lt hbb)))
  replace H2 := Lib.hid ((H2.out.keep hb).grown hgr (Nat.ne_of_lt (Nat.lt_of_lt_of_le H2.out.lt hbb)))
  replace H3 := Lib.hid ((H3.out.keep hb).grown hgr (Nat.ne_of_lt (Nat.lt_of_lt_of_le H3.out.lt hbb)))
  replace H5 := Lib.hid ((H5.out.keep hb).grown hgr (Nat.ne_of_lt (Nat.lt_of_lt_of_le H5.out.lt hbb)))
  replace H7 := Lib.hid ((H7.out.keep hb).grown hgr (Nat.ne_of_lt (Nat.lt_of_lt_of_le H7.out.lt hbb)))
  replace H9 := Lib.hid ((H9.out.keep hb).grown hgr (Nat.ne_of_lt (Nat.lt_of_lt_of_le H9.out.lt hbb)))
  replace H11 := Lib.hid ((H11.out.keep hb).grown hgr (Nat.ne_of_lt (Nat.lt_of_lt_of_le H11.out.lt hbb)))
  clear hgr hb hblk
  refine Agg.tAssign rfl rfl rfl ?_
  simp only [Agg.ev, List.getD_cons_zero, List.getD_cons_succ, List.set_cons_succ, List.set_cons_zero]
  refine Agg.wpNil ?_
  have xH1_0 := H1.out.cell 0
  have xH1_1 := H1.out.cell 1
  have lH1 := H1.out.lt
  simp only [List.getElem?_cons_zero, List.getElem?_cons_succ] at xH1_0 xH1_1
  have xH2_0 := H2.out.cell 0
  have xH2_1 := H2.out.cell 1
  have lH2 := H2.out.lt
  simp only [List.getElem?_cons_zero, List.getElem?_cons_succ] at xH2_0 xH2_1
  have xH3_0 := H3.out.cell 0
  have xH3_1 := H3.out.cell 1
  have lH3 := H3.out.lt
  simp only [List.getElem?_cons_zero, List.getElem?_cons_succ] at xH3_0 xH3_1
  have xH5_0 := H5.out.cell 0
  have xH5_1 := H5.out.cell 1
  have lH5 := H5.out.lt
  simp only [List.getElem?_cons_zero, List.getElem?_cons_succ] at xH5_0 xH5_1
  have xH7_0 := H7.out.cell 0
  have xH7_1 := H7.out.cell 1
  have lH7 := H7.out.lt
  simp only [List.getElem?_cons_zero, List.getElem?_cons_succ] at xH7_0 xH7_1
  have xH9_0 := H9.out.cell 0
  have xH9_1 := H9.out.cell 1
  have lH9 := H9.out.lt
  simp only [List.getElem?_cons_zero, List.getElem?_cons_succ] at xH9_0 xH9_1
  have xH11_0 := H11.out.cell 0
  have xH11_1 := H11.out.cell 1
  have lH11 := H11.out.lt
  simp only [List.getElem?_cons_zero, List.getElem?_cons_succ] at xH11_0 xH11_1
  go_wp2_with fail
  clear xH1_0 xH1_1 lH1 xH2_0 xH2_1 lH2 xH3_0 xH3_1 lH3 xH5_0 xH5_1 lH5 xH7_0 xH7_1 lH7 xH9_0 xH9_1 lH9 xH11_0 xH11_1 lH11
  refine (width_any 1 5 w13 (by decide) (by decide)).mono ?_
  rintro e w14 ⟨rfl, hb⟩
  replace HB := Lib.hid (HB.out.trans (hb.mono HB.out.size))
  replace H1 := Lib.hid (H1.out.keep hb)
  replace H2 := Lib.hid (H2.out.keep hb)
  replace H3 := Lib.hid (H3.out.keep hb)
  replace H5 := Lib.hid (H5.out.keep hb)
  replace H7 := Lib.hid (H7.out.keep hb)
  replace H9 := Lib.hid (H9.out.keep hb)
  replace H11 := Lib.hid (H11.out.keep hb)
  clear hb
  rw [show widthI (1, 5) = 4 from rfl]
  have xH1_0 := H1.out.cell 0
  have xH1_1 := H1.out.cell 1
  have lH1 := H1.out.lt
  simp only [List.getElem?_cons_zero, List.getElem?_cons_succ] at xH1_0 xH1_1
  go_wp2_with fail
  clear xH1_0 xH1_1 lH1
  refine (has_any 1 5 5 w14 true rfl).mono ?_
  rintro e w15 ⟨rfl, hb⟩
  replace HB := Lib.hid (HB.out.trans (hb.mono HB.out.size))
  replace H1 := Lib.hid (H1.out.keep hb)
  replace H2 := Lib.hid (H2.out.keep hb)
  replace H3 := Lib.hid (H3.out.keep hb)
  replace H5 := Lib.hid (H5.out.keep hb)
  replace H7 := Lib.hid (H7.out.keep hb)
  replace H9 := Lib.hid (H9.out.keep hb)
  replace H11 := Lib.hid (H11.out.keep hb)
  clear hb
  go_wp2_with fail
  refine (check_any 1 0 w15).mono ?_
  rintro e w16 ⟨rfl, hb⟩
  replace HB := Lib.hid (HB.out.trans (hb.mono HB.out.size))
  replace H1 := Lib.hid (H1.out.keep hb)
  replace H2 := Lib.hid (H2.out.keep hb)
  replace H3 := Lib.hid (H3.out.keep hb)
  replace H5 := Lib.hid (H5.out.keep hb)
  replace H7 := Lib.hid (H7.out.keep hb)
  replace H9 := Lib.hid (H9.out.keep hb)
  replace H11 := Lib.hid (H11.out.keep hb)
  clear hb
  rw [show ckE (1, 0) = 140 from rfl]
  go_wp2_with fail
  go_ret
  exact ⟨rfl, HB.out⟩
end Go.Proofs.Ytcedalenjcbnmaa
