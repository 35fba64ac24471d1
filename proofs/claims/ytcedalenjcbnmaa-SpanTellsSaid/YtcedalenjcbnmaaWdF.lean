/-
  THE DOCUMENT's SPANS (layer 4): Times.
-/
import Derived.Test.YtcedalenjcbnmaaWdC
import Derived.Test.YtcedalenjcbnmaaWdE
namespace Go.Proofs.Ytcedalenjcbnmaa
open Go.ChangeShapes Go.WideShapes Go.ChangeAt Go.RowKit Agg Wd

theorem mul_len {a b : Nat} (ha : (digs a).length ≤ 64) (hb : (digs b).length ≤ 64) : (digs (a * b)).length ≤ 128 := by
  refine digs_len ?_
  have h1 := Nat.lt_of_lt_of_le (digs_high a) (Nat.pow_le_pow_right (by decide : 0 < 2) ha)
  have h2 := Nat.lt_of_lt_of_le (digs_high b) (Nat.pow_le_pow_right (by decide : 0 < 2) hb)
  have := Nat.mul_lt_mul'' h1 h2
  rw [← Nat.pow_add] at this
  exact this
theorem NumV.keep {z : Int} {v : Value} {w w' : World} (h : NumV z v w) (hb : Below w.heap.size w w') : NumV z v w' := by
  obtain ⟨sl, h1, h2⟩ := h
  exact ⟨sl, h1, SlR.keep h2 hb⟩
/-- a span so many times, as the document has it -/
def timesD (a b n : Int) : (Int × Int) × Bool := if n < 0 then ofR (b * n) (a * n) else ofR (a * n) (b * n)
set_option maxHeartbeats 4000000 in
set_option maxRecDepth 100000 in
theorem rTimes_any (a b n : Int) (ha1 : -9223372036854775808 ≤ a) (ha2 : a ≤ 9223372036854775807) (hb1 : -9223372036854775808 ≤ b) (hb2 : b ≤ 9223372036854775807) (hn1 : -9223372036854775808 ≤ n) (hn2 : n ≤ 9223372036854775807) (w : World) (r1 r2 : Int) (r3 : Bool) (hr : timesD a b n = ((r1, r2), r3)) :
    Calls Try.prog 42 #[.agg #[.int .i64 a, .int .i64 b], .int .i64 n] w fun e w' => e = .returned (.tuple #[.agg #[.int .i64 r1, .int .i64 r2], .bool r3]) ∧ Below w.heap.size w w' := by
  have HIA := Lib.hid (fun W => Int_any a ha1 ha2 W)
  have HIB := Lib.hid (fun W => Int_any b hb1 hb2 W)
  have HIN := Lib.hid (fun W => Int_any n hn1 hn2 W)
  have HLA := Lib.hid (i64_len ha1 ha2)
  have HLB := Lib.hid (i64_len hb1 hb2)
  have HLN := Lib.hid (i64_len hn1 hn2)
  have HMA := Lib.hid (fun u v W => Mul_any a n (by have := i64_len ha1 ha2; omega) (by have := i64_len hn1 hn2; omega) (by have := mul_len (i64_len ha1 ha2) (i64_len hn1 hn2); omega) u v W)
  have HMB := Lib.hid (fun u v W => Mul_any b n (by have := i64_len hb1 hb2; omega) (by have := i64_len hn1 hn2; omega) (by have := mul_len (i64_len hb1 hb2) (i64_len hn1 hn2); omega) u v W)
  have HLP : Hid ((digs (a * n).natAbs).length ≤ 500) := Lib.hid (by
    rw [Int.natAbs_mul]; have := mul_len (i64_len ha1 ha2) (i64_len hn1 hn2); omega)
  have HLQ : Hid ((digs (b * n).natAbs).length ≤ 500) := Lib.hid (by
    rw [Int.natAbs_mul]; have := mul_len (i64_len hb1 hb2) (i64_len hn1 hn2); omega)
  have HR := Lib.hid hr
  clear hr ha1 ha2 hb1 hb2 hn1 hn2
  obtain ⟨p, hp⟩ : ∃ p, a * n = p := ⟨_, rfl⟩
  obtain ⟨q, hq⟩ : ∃ q, b * n = q := ⟨_, rfl⟩
  rw [hp] at HMA HLP
  rw [hq] at HMB HLQ
  replace HR : Hid ((if n < 0 then ofR q p else ofR p q) = ((r1, r2), r3)) := by rw [← hp, ← hq]; exact HR
  clear hp hq
  have HB := Lib.hid (Below.refl w.heap.size w)
  go_enter Try.func42, Try.ntmps42
  go_wp2_with fail
  refine Agg.calls_at fun w1 hw1 => ?_
  have hb : Below w.heap.size w w1 := by rw [hw1.out]; repeat (first | exact Below.refl _ _ | refine Agg.bel_drew ?_ | refine Agg.bel_alloc ?_ _)
  replace HB := Lib.hid (HB.out.trans (hb.mono HB.out.size))
  clear hb
  have H2 : Hid (Blk w1 w.heap.size 31 [.int .i64 a, .int .i64 b]) := by show Blk _ _ _ _; rw [hw1.out]; exact (Blk.new w 31 #[.int .i64 a, .int .i64 b]).al _
  have H4 : Hid (Blk w1 (w.heap.size + 1) 31 [.int .i64 0, .int .i64 0]) := by show Blk _ _ _ _; rw [hw1.out]; exact Blk.newAt (w.alloc _) 31 #[.int .i64 0, .int .i64 0] _ (by simp)
  clear hw1
  refine (HIA.out w1).mono ?_
  rintro e w2 ⟨u, rfl, hU, hb⟩
  replace HB := Lib.hid (HB.out.trans (hb.mono HB.out.size))
  replace H2 := Lib.hid (H2.out.keep hb)
  replace H4 := Lib.hid (H4.out.keep hb)
  clear hb
  have HU : Hid (NumV a u w2) := Lib.hid hU
  clear hU
  go_wp2_with fail
  refine (HIN.out w2).mono ?_
  rintro e w3 ⟨v, rfl, hV, hb⟩
  replace HB := Lib.hid (HB.out.trans (hb.mono HB.out.size))
  replace H2 := Lib.hid (H2.out.keep hb)
  replace H4 := Lib.hid (H4.out.keep hb)
  replace HU := Lib.hid (HU.out.keep hb)
  clear hb
  have HV : Hid (NumV n v w3) := Lib.hid hV
  clear hV
  go_wp2_with fail
  refine (HMA.out u v w3 HU.out HV.out).mono ?_
  rintro e w4 ⟨r, rfl, ⟨sl, hsl, hnb⟩, hb⟩
  replace HB := Lib.hid (HB.out.trans (hb.mono HB.out.size))
  replace H2 := Lib.hid (H2.out.keep hb)
  replace H4 := Lib.hid (H4.out.keep hb)
  replace HU := Lib.hid (HU.out.keep hb)
  replace HV := Lib.hid (HV.out.keep hb)
  clear hb
  subst hsl
  clear HU HV
  obtain ⟨x1, c1, rfl, _, _⟩ := SlR.shape hnb
  have HP : Hid (NB w4 (.slice x1 (digs p.natAbs).length c1) p.natAbs) := Lib.hid hnb
  clear hnb
  obtain ⟨f1, hf1⟩ : ∃ f1, decide (p < 0) = f1 := ⟨_, rfl⟩
  rw [hf1]
  have HF1 := Lib.hid hf1
  clear hf1
  obtain ⟨la, hla⟩ : ∃ la, la = (digs p.natAbs).length := ⟨_, rfl⟩
  rw [← hla] at HP ⊢
  clear hla
  have h6 := Blk.new w4 57 #[.bool false, .slice none 0 0]
  have H6Z := Lib.hid h6
  have hsz := HB.out.size
  have h4l := H4.out.lt
  have h2l := H2.out.lt
  go_upto_region 2 with (refine Agg.gStoreB 2 [.bool f1, .slice x1 la c1] h6 rfl rfl rfl rfl rfl (by decide +kernel) rfl rfl (by simp [Value.oneCell']) (fun wa hba hga => ?_); clear h6)
  have hal : Below w4.heap.size w4 (w4.alloc (.cells #[.bool false, .slice none 0 0] 57)) := bel_alloc (Below.refl _ _) _
  have hnil : ∀ z, (Value.slice none 0 0) ≠ .int .i64 z := by intro z hz; cases hz
  have q1 : NB wa (.slice x1 la c1) p.natAbs := NB.far (SlR.keep HP.out hal) H6Z.out hnil hga
  have q4 := (H4.out.al (.cells #[.bool false, .slice none 0 0] 57)).far' hga (by omega)
  have q2 := (H2.out.al (.cells #[.bool false, .slice none 0 0] 57)).far' hga (by omega)
  have hb1 := HB.out.trans (hal.mono hsz)
  have hb2 := hb1.trans (grown_below hga hb1.size (fun j hj => (by cases hj; omega)))
  replace HB := Lib.hid hb2
  replace HP := Lib.hid q1
  replace H4 := Lib.hid q4
  replace H2 := Lib.hid q2
  have H6 := Lib.hid hba
  clear hal hnil q1 q2 q4 hb1 hb2 hba hga H6Z hsz h4l h2l
  generalize w4.heap.size = g6 at *
  have xH2_0 := H2.out.cell 0
  have xH2_1 := H2.out.cell 1
  have lH2 := H2.out.lt
  simp only [List.getElem?_cons_zero, List.getElem?_cons_succ] at xH2_0 xH2_1
  go_wp2_with fail
  clear xH2_0 xH2_1 lH2
  refine (HIB.out wa).mono ?_
  rintro e w21 ⟨u, rfl, hU, hb⟩
  replace HB := Lib.hid (HB.out.trans (hb.mono HB.out.size))
  replace H2 := Lib.hid (H2.out.keep hb)
  replace H4 := Lib.hid (H4.out.keep hb)
  replace HP := Lib.hid (HP.out.keep hb)
  replace H6 := Lib.hid (H6.out.keep hb)
  clear hb
  have HU : Hid (NumV b u w21) := Lib.hid hU
  clear hU
  go_wp2_with fail
  refine (HIN.out w21).mono ?_
  rintro e w22 ⟨v, rfl, hV, hb⟩
  replace HB := Lib.hid (HB.out.trans (hb.mono HB.out.size))
  replace H2 := Lib.hid (H2.out.keep hb)
  replace H4 := Lib.hid (H4.out.keep hb)
  replace HP := Lib.hid (HP.out.keep hb)
  replace H6 := Lib.hid (H6.out.keep hb)
  replace HU := Lib.hid (HU.out.keep hb)
  clear hb
  have HV : Hid (NumV n v w22) := Lib.hid hV
  clear hV
  go_wp2_with fail
  refine (HMB.out u v w22 HU.out HV.out).mono ?_
  rintro e w23 ⟨r, rfl, ⟨sl, hsl, hnb⟩, hb⟩
  replace HB := Lib.hid (HB.out.trans (hb.mono HB.out.size))
  replace H4 := Lib.hid (H4.out.keep hb)
  replace HP := Lib.hid (HP.out.keep hb)
  replace H6 := Lib.hid (H6.out.keep hb)
  replace HU := Lib.hid (HU.out.keep hb)
  replace HV := Lib.hid (HV.out.keep hb)
  clear hb
  subst hsl
  clear HU HV
  obtain ⟨x2, c2, rfl, _, _⟩ := SlR.shape hnb
  have HQ : Hid (NB w23 (.slice x2 (digs q.natAbs).length c2) q.natAbs) := Lib.hid hnb
  clear hnb
  obtain ⟨f2, hf2⟩ : ∃ f2, decide (q < 0) = f2 := ⟨_, rfl⟩
  rw [hf2]
  have HF2 := Lib.hid hf2
  clear hf2
  obtain ⟨lb, hlb⟩ : ∃ lb, lb = (digs q.natAbs).length := ⟨_, rfl⟩
  rw [← hlb] at HQ ⊢
  clear hlb
  have h7 := Blk.new w23 57 #[.bool false, .slice none 0 0]
  have H7Z := Lib.hid h7
  have hsz := HB.out.size
  have h4l := H4.out.lt
  have h6l := H6.out.lt
  go_upto_region 3 with (refine Agg.gStoreB 2 [.bool f2, .slice x2 lb c2] h7 rfl rfl rfl rfl rfl (by decide +kernel) rfl rfl (by simp [Value.oneCell']) (fun wb hbb hgb => ?_); clear h7)
  have hal : Below w23.heap.size w23 (w23.alloc (.cells #[.bool false, .slice none 0 0] 57)) := bel_alloc (Below.refl _ _) _
  have hnil : ∀ z, (Value.slice none 0 0) ≠ .int .i64 z := by intro z hz; cases hz
  have q1 : NB wb (.slice x1 la c1) p.natAbs := NB.far (SlR.keep HP.out hal) H7Z.out hnil hgb
  have q3 : NB wb (.slice x2 lb c2) q.natAbs := NB.far (SlR.keep HQ.out hal) H7Z.out hnil hgb
  have q4 := (H4.out.al (.cells #[.bool false, .slice none 0 0] 57)).far' hgb (by omega)
  have q6 := (H6.out.al (.cells #[.bool false, .slice none 0 0] 57)).far' hgb (by omega)
  have hb1 := HB.out.trans (hal.mono hsz)
  have hb2 := hb1.trans (grown_below hgb hb1.size (fun j hj => (by cases hj; omega)))
  replace HB := Lib.hid hb2
  replace HP := Lib.hid q1
  replace HQ := Lib.hid q3
  replace H4 := Lib.hid q4
  replace H6 := Lib.hid q6
  have H7 := Lib.hid hbb
  clear hal hnil q1 q3 q4 q6 hb1 hb2 hbb hgb H7Z hsz h4l h6l
  generalize w23.heap.size = g7 at *
  by_cases hneg : n < 0
  · replace HR : Hid (ofR q p = ((r1, r2), r3)) := Lib.hid (by have := HR.out; rw [if_pos hneg] at this; exact this)
    go_upto_region 4 with (fail)
    refine Agg.listR 5 (by kernel_rfl) ?_
    simp only [List.take_succ_cons, List.take_zero, List.drop_succ_cons, List.drop_zero]
    refine Agg.chRowB 2 H7.out rfl (by decide +kernel) rfl rfl rfl rfl ?_
    refine Agg.chRowB 2 H6.out rfl (by decide +kernel) rfl rfl rfl rfl ?_
    refine Agg.chCall Try.func54 rfl (by kernel_rfl) rfl rfl rfl rfl (fun W hb => (Of_any q p HLQ.out HLP.out _ _ W ⟨_, by rw [HF2.out], SlR.keep HQ.out hb⟩ ⟨_, by rw [HF1.out], SlR.keep HP.out hb⟩).mono (fun e w' ⟨q1, q2⟩ => (⟨by rw [q1, HR.out], q2⟩ : e = .returned (.tuple #[.agg #[.int .i64 r1, .int .i64 r2], .bool r3]) ∧ _))) ?_
    refine Agg.chExtract rfl rfl rfl rfl rfl ?_
    refine Agg.chExtract rfl rfl rfl rfl rfl ?_
    refine Agg.chEnd ?_
    intro vs w41 hb hf
    simp only [List.reverse, List.reverseAux, Agg.Facts] at hf
    obtain _ := hf
    simp only [List.reverse, List.reverseAux, Agg.fill, List.set_cons_succ, List.set_cons_zero]
    have h4 := H4.out.keep hb
    have hsz := HB.out.size
    replace HB := Lib.hid (HB.out.trans (hb.mono hsz))
    clear hb
    have hsz2 := HB.out.size
    go_wp2_with (refine Agg.gStoreB 2 [.int .i64 r1, .int .i64 r2] h4 rfl rfl rfl rfl rfl (by decide +kernel) rfl rfl (by simp [Value.oneCell']) (fun w30 hb30 hg30 => ?_))
    refine bodyPost_ret (results_row2 (m := 2) rfl hb30 rfl (by decide +kernel) rfl) rfl ⟨rfl, ?_⟩
    exact HB.out.trans (grown_below hg30 hsz2 (fun j hj => (by cases hj; omega)))
  · replace HR : Hid (ofR p q = ((r1, r2), r3)) := Lib.hid (by have := HR.out; rw [if_neg hneg] at this; exact this)
    go_upto_region 5 with (fail)
    refine Agg.listR 5 (by kernel_rfl) ?_
    simp only [List.take_succ_cons, List.take_zero, List.drop_succ_cons, List.drop_zero]
    refine Agg.chRowB 2 H6.out rfl (by decide +kernel) rfl rfl rfl rfl ?_
    refine Agg.chRowB 2 H7.out rfl (by decide +kernel) rfl rfl rfl rfl ?_
    refine Agg.chCall Try.func54 rfl (by kernel_rfl) rfl rfl rfl rfl (fun W hb => (Of_any p q HLP.out HLQ.out _ _ W ⟨_, by rw [HF1.out], SlR.keep HP.out hb⟩ ⟨_, by rw [HF2.out], SlR.keep HQ.out hb⟩).mono (fun e w' ⟨q1, q2⟩ => (⟨by rw [q1, HR.out], q2⟩ : e = .returned (.tuple #[.agg #[.int .i64 r1, .int .i64 r2], .bool r3]) ∧ _))) ?_
    refine Agg.chExtract rfl rfl rfl rfl rfl ?_
    refine Agg.chExtract rfl rfl rfl rfl rfl ?_
    refine Agg.chEnd ?_
    intro vs w42 hb hf
    simp only [List.reverse, List.reverseAux, Agg.Facts] at hf
    obtain _ := hf
    simp only [List.reverse, List.reverseAux, Agg.fill, List.set_cons_succ, List.set_cons_zero]
    have h4 := H4.out.keep hb
    have hsz := HB.out.size
    replace HB := Lib.hid (HB.out.trans (hb.mono hsz))
    clear hb
    have hsz2 := HB.out.size
    go_wp2_with (refine Agg.gStoreB 2 [.int .i64 r1, .int .i64 r2] h4 rfl rfl rfl rfl rfl (by decide +kernel) rfl rfl (by simp [Value.oneCell']) (fun w30 hb30 hg30 => ?_))
    refine bodyPost_ret (results_row2 (m := 2) rfl hb30 rfl (by decide +kernel) rfl) rfl ⟨rfl, ?_⟩
    exact HB.out.trans (grown_below hg30 hsz2 (fun j hj => (by cases hj; omega)))
end Go.Proofs.Ytcedalenjcbnmaa
