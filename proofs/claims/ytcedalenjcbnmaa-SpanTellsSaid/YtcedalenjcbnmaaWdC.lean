/-
  THE DOCUMENT's SPANS (layer 4): Around.
-/
import Derived.Test.YtcedalenjcbnmaaWdB
namespace Go.Proofs.Ytcedalenjcbnmaa
open Go.ChangeShapes Go.WideShapes Go.ChangeAt Go.RowKit Agg Wd

theorem i64_len {z : Int} (h1 : -9223372036854775808 ≤ z) (h2 : z ≤ 9223372036854775807) : (digs z.natAbs).length ≤ 64 := by
  refine digs_len ?_
  have e : (2 : Nat) ^ 64 = 18446744073709551616 := by decide
  rw [e]; omega
set_option maxHeartbeats 4000000 in
set_option maxRecDepth 100000 in
theorem rAround_any (a b : Int) (ha1 : -9223372036854775808 ≤ a) (ha2 : a ≤ 9223372036854775807) (hb1 : -9223372036854775808 ≤ b) (hb2 : b ≤ 9223372036854775807) (w : World) :
    Calls Try.prog 25 #[.int .i64 a, .int .i64 b] w fun e w' => e = .returned (.tuple #[.agg #[.int .i64 (ofR (a - b) (a + b)).1.1, .int .i64 (ofR (a - b) (a + b)).1.2], .bool (ofR (a - b) (a + b)).2]) ∧ Below w.heap.size w w' := by
  have HIA := Lib.hid (fun W => Int_any a ha1 ha2 W)
  have HIB := Lib.hid (fun W => Int_any b hb1 hb2 W)
  have HLA := Lib.hid (i64_len ha1 ha2)
  have HLB := Lib.hid (i64_len hb1 hb2)
  have HLS : Hid ((digs (a - b).natAbs).length ≤ 500) := Lib.hid (by
    have := abs_add_len (a := a) (b := -b) (i64_len ha1 ha2) (by rw [Int.natAbs_neg]; exact i64_len hb1 hb2)
    rw [Int.sub_eq_add_neg]; omega)
  have HLP : Hid ((digs (a + b).natAbs).length ≤ 500) := Lib.hid (by
    have := abs_add_len (a := a) (b := b) (i64_len ha1 ha2) (i64_len hb1 hb2)
    omega)
  obtain ⟨⟨⟨r1, r2⟩, r3⟩, hr⟩ : ∃ r, ofR (a - b) (a + b) = r := ⟨_, rfl⟩
  have HR := Lib.hid hr
  rw [hr]
  clear hr ha1 ha2 hb1 hb2
  have HB := Lib.hid (Below.refl w.heap.size w)
  go_enter Try.func25, Try.ntmps25
  go_wp2_with fail
  refine Agg.calls_at fun w1 hw1 => ?_
  have hb : Below w.heap.size w w1 := by rw [hw1.out]; repeat (first | exact Below.refl _ _ | refine Agg.bel_drew ?_ | refine Agg.bel_alloc ?_ _)
  replace HB := Lib.hid (HB.out.trans (hb.mono HB.out.size))
  clear hb
  have H4 : Hid (Blk w1 w.heap.size 31 [.int .i64 0, .int .i64 0]) := by show Blk _ _ _ _; rw [hw1.out]; exact Blk.new w 31 #[.int .i64 0, .int .i64 0]
  clear hw1
  refine (HIA.out w1).mono ?_
  rintro e w2 ⟨u, rfl, ⟨s1, hu, hn1⟩, hb⟩
  replace HB := Lib.hid (HB.out.trans (hb.mono HB.out.size))
  replace H4 := Lib.hid (H4.out.keep hb)
  clear hb
  subst hu
  obtain ⟨x1, c1, rfl, _, _⟩ := SlR.shape hn1
  have HS1 : Hid (NB w2 (.slice x1 (digs a.natAbs).length c1) a.natAbs) := Lib.hid hn1
  clear hn1
  obtain ⟨f1, hf1⟩ : ∃ f1, decide (a < 0) = f1 := ⟨_, rfl⟩
  rw [hf1]
  have HF1 := Lib.hid hf1
  clear hf1
  obtain ⟨la, hla⟩ : ∃ la, la = (digs a.natAbs).length := ⟨_, rfl⟩
  rw [← hla] at HS1 ⊢
  clear hla
  go_wp2_with fail
  refine (HIB.out w2).mono ?_
  rintro e w3 ⟨v, rfl, ⟨s2, hv, hn2⟩, hb⟩
  replace HB := Lib.hid (HB.out.trans (hb.mono HB.out.size))
  replace H4 := Lib.hid (H4.out.keep hb)
  replace HS1 := Lib.hid (HS1.out.keep hb)
  clear hb
  subst hv
  obtain ⟨x2, c2, rfl, _, _⟩ := SlR.shape hn2
  have HS2 : Hid (NB w3 (.slice x2 (digs b.natAbs).length c2) b.natAbs) := Lib.hid hn2
  clear hn2
  obtain ⟨f2, hf2⟩ : ∃ f2, decide (b < 0) = f2 := ⟨_, rfl⟩
  rw [hf2]
  have HF2 := Lib.hid hf2
  clear hf2
  obtain ⟨lb, hlb⟩ : ∃ lb, lb = (digs b.natAbs).length := ⟨_, rfl⟩
  rw [← hlb] at HS2 ⊢
  clear hlb
  have h6 := (Blk.new w3 57 #[.bool false, .slice none 0 0]).al (.cells #[.bool false, .slice none 0 0] 57)
  have h7 := Blk.newAt (w3.alloc (.cells #[.bool false, .slice none 0 0] 57)) 57 #[.bool false, .slice none 0 0] (w3.heap.size + 1) (by simp)
  have H6Z := Lib.hid h6
  have H7Z := Lib.hid h7
  have hsz := HB.out.size
  clear h7
  have h4l := H4.out.lt
  go_upto_region 2 with (first
    | (refine Agg.gStoreB 2 [.bool f1, .slice x1 la c1] h6 rfl rfl rfl rfl rfl (by decide +kernel) rfl rfl (by simp [Value.oneCell']) (fun wa hba hga => ?_); clear h6; have h7 := H7Z.out.far' hga (Nat.succ_ne_self _); have h7c := Lib.hid h7)
    | (refine Agg.gStoreB 2 [.bool f2, .slice x2 lb c2] h7 rfl rfl rfl rfl rfl (by decide +kernel) rfl rfl (by simp [Value.oneCell']) (fun wb hbb hgb => ?_); clear h7))
  have hal : Below w3.heap.size w3 ((w3.alloc (.cells #[.bool false, .slice none 0 0] 57)).alloc (.cells #[.bool false, .slice none 0 0] 57)) := bel_alloc (bel_alloc (Below.refl _ _) _) _
  have hnil : ∀ z, (Value.slice none 0 0) ≠ .int .i64 z := by intro z hz; cases hz
  have q1 : NB wb (.slice x1 la c1) a.natAbs := NB.far (NB.far (SlR.keep HS1.out hal) H6Z.out hnil hga) h7c.out hnil hgb
  have q2 : NB wb (.slice x2 lb c2) b.natAbs := NB.far (NB.far (SlR.keep HS2.out hal) H6Z.out hnil hga) h7c.out hnil hgb
  have q4 := (((H4.out.al (.cells #[.bool false, .slice none 0 0] 57)).al (.cells #[.bool false, .slice none 0 0] 57)).far' hga (by omega)).far' hgb (by omega)
  have q6 := hba.far' hgb (by omega)
  have hb1 := HB.out.trans (hal.mono hsz)
  have hb2 := hb1.trans (grown_below hga hb1.size (fun j hj => (by cases hj; omega)))
  have hb3 := hb2.trans (grown_below hgb hb2.size (fun j hj => (by cases hj; omega)))
  replace HB := Lib.hid hb3
  replace HS1 := Lib.hid q1
  replace HS2 := Lib.hid q2
  replace H4 := Lib.hid q4
  have H6 := Lib.hid q6
  have H7 := Lib.hid hbb
  clear hal hnil q1 q2 q4 q6 hb1 hb2 hb3 hba hga hbb hgb h7c H6Z H7Z hsz h4l
  generalize w3.heap.size = g6 at *
  refine Agg.chainR 9 (by kernel_rfl) (by kernel_rfl) ?_
  simp only [List.take_succ_cons, List.take_zero, List.drop_succ_cons, List.drop_zero]
  refine Agg.chRowB 2 H6.out rfl (by decide +kernel) rfl rfl rfl rfl ?_
  refine Agg.chRowB 2 H7.out rfl (by decide +kernel) rfl rfl rfl rfl ?_
  refine Agg.chCallG Try.func55 rfl (by kernel_rfl) (NumV (a - b)) (NumV.stable _) rfl rfl rfl rfl (fun W hb => Sub_any a b (by have := HLA.out; omega) (by have := HLB.out; omega) _ _ W ⟨_, by rw [HF1.out], SlR.keep HS1.out hb⟩ ⟨_, by rw [HF2.out], SlR.keep HS2.out hb⟩) ?_
  refine Agg.chRowB 2 H6.out rfl (by decide +kernel) rfl rfl rfl rfl ?_
  refine Agg.chRowB 2 H7.out rfl (by decide +kernel) rfl rfl rfl rfl ?_
  refine Agg.chCallG Try.func56 rfl (by kernel_rfl) (NumV (a + b)) (NumV.stable _) rfl rfl rfl rfl (fun W hb => Add_any a b (by have := HLA.out; omega) (by have := HLB.out; omega) _ _ W ⟨_, by rw [HF1.out], SlR.keep HS1.out hb⟩ ⟨_, by rw [HF2.out], SlR.keep HS2.out hb⟩) ?_
  refine Agg.chCall_oo Try.func54 rfl (by kernel_rfl) (.pure (.tuple #[.agg #[.int .i64 r1, .int .i64 r2], .bool r3])) trivial 2 5 rfl rfl rfl rfl rfl rfl rfl rfl rfl (fun u u2 W hb hg hg2 => (Of_any (a - b) (a + b) HLS.out HLP.out u u2 W hg hg2).mono (fun e w' ⟨q1, q2⟩ => ⟨_, q1, by rw [HR.out]; rfl, q2⟩)) ?_
  refine Agg.chExtract rfl rfl rfl rfl rfl ?_
  refine Agg.chExtract rfl rfl rfl rfl rfl ?_
  refine Agg.chEnd ?_
  intro vs w41 hb hf
  simp only [List.reverse, List.reverseAux, Agg.Facts] at hf
  obtain _ := hf
  simp only [List.reverse, List.reverseAux, Agg.fill, List.set_cons_succ, List.set_cons_zero]
  have h4 := H4.out.keep hb
  have hsz := HB.out.size
  replace HB := Lib.hid (HB.out.trans (hb.mono hsz))
  clear hb
  refine Agg.tStore 2 h4 rfl rfl rfl rfl rfl (by decide +kernel) rfl rfl (by simp [Value.oneCell']) (fun w30 hb30 hg30 => ?_)
  refine Agg.tAssign rfl rfl rfl ?_
  simp only [Agg.ev, List.getD_cons_zero, List.getD_cons_succ, List.set_cons_succ, List.set_cons_zero]
  refine Agg.wpNil ?_
  have hsz2 := HB.out.size
  go_wp2_with fail
  refine bodyPost_ret (results_row2 (m := 2) rfl hb30 rfl (by decide +kernel) rfl) rfl ⟨rfl, ?_⟩
  exact HB.out.trans (grown_below hg30 hsz2 (fun j hj => (by cases hj; exact Nat.le_refl _)))
end Go.Proofs.Ytcedalenjcbnmaa
