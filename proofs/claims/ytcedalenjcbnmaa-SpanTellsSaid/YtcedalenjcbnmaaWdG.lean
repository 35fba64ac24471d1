/-
  THE DOCUMENT's SPANS (layer 4): Plus.
-/
import Derived.Test.YtcedalenjcbnmaaWdF
import Derived.Test.YtcedalenjcbnmaaSpanL6
namespace Go.Proofs.Ytcedalenjcbnmaa
open Go.ChangeShapes Go.WideShapes Go.ChangeAt Go.RowKit Agg Wd

/-- a number in a variable of its own -/
def NumAt (w : World) (g : Nat) (z : Int) : Prop := ∃ sl, Blk w g 57 [.bool (decide (z < 0)), sl] ∧ NB w sl z.natAbs
theorem sumE_bound (F : Bool) (l : List Sp) (hI : ∀ s ∈ l, I64 s.1 ∧ I64 s.2) : ∀ k, k ≤ l.length → -(k : Int) * 9223372036854775808 ≤ sumE F (l.take k) ∧ sumE F (l.take k) ≤ k * 9223372036854775808 := by
  intro k
  induction k with
  | zero => intro _; simp [sumE]
  | succ k ih =>
    intro h
    have ih := ih (by omega)
    rw [sumE_succ F l k (by omega)]
    have h1 := hI l[k] (List.getElem_mem (by omega))
    unfold I64 at h1
    cases F <;> simp only [endF] <;> omega
theorem sum_len {z : Int} {k : Nat} (hk : k ≤ 20) (h : -(k : Int) * 9223372036854775808 ≤ z ∧ z ≤ k * 9223372036854775808) : (digs z.natAbs).length ≤ 68 := by
  refine digs_len ?_
  have e : (2 : Nat) ^ 68 = 295147905179352825856 := by decide
  rw [e]; omega
set_option maxHeartbeats 4000000 in
set_option maxRecDepth 100000 in
theorem rPlus_any (l : List Sp) (v : Value) (w : World) (hv : Spans w v l) (hn : l.length ≤ 20) (hI : ∀ s ∈ l, I64 s.1 ∧ I64 s.2) (r1 r2 : Int) (r3 : Bool) (hr : ofR (sumE false l) (sumE true l) = ((r1, r2), r3)) :
    Calls Try.prog 40 #[v] w fun e w' => e = .returned (.tuple #[.agg #[.int .i64 r1, .int .i64 r2], .bool r3]) ∧ Below w.heap.size w w' := by
  obtain ⟨x, cap, rfl, _, hm⟩ := hv.shape
  unfold maxLen at hm
  have HV := Lib.hid hv
  have HR := Lib.hid hr
  have HI := Lib.hid hI
  have HN := Lib.hid hn
  clear hv hr hI
  have HB := Lib.hid (Below.refl w.heap.size w)
  go_enter Try.func40, Try.ntmps40
  go_upto_region 2 with (fail)
  refine Agg.wp_at fun w1 hw1 => ?_
  have hb : Below w.heap.size w w1 := by rw [hw1.out]; repeat (first | exact Below.refl _ _ | refine Agg.bel_drew ?_ | refine Agg.bel_alloc ?_ _)
  replace HB := Lib.hid (HB.out.trans (hb.mono HB.out.size))
  clear hb
  have H2 : Hid (Blk w1 w.heap.size 31 [.int .i64 0, .int .i64 0]) := by show Blk _ _ _ _; rw [hw1.out]; exact ((Blk.new w 31 #[.int .i64 0, .int .i64 0]).al _).al _
  have H4 : Hid (NumAt w1 (w.heap.size + 1) 0) := by show NumAt _ _ _; rw [hw1.out]; exact ⟨.slice none 0 0, (Blk.newAt (w.alloc _) 57 #[.bool false, .slice none 0 0] _ (by simp)).al _, NB.nil _⟩
  have H5 : Hid (NumAt w1 (w.heap.size + 2) 0) := by show NumAt _ _ _; rw [hw1.out]; exact ⟨.slice none 0 0, Blk.newAt ((w.alloc _).alloc _) 57 #[.bool false, .slice none 0 0] _ (by simp), NB.nil _⟩
  clear hw1
  go_wp2_with fail
  go_loopw [10] (fun i wr => ∃ k : Nat, k ≤ l.length ∧ i = .int .i64 k ∧ Below w.heap.size w wr ∧ Blk wr w.heap.size 31 [.int .i64 0, .int .i64 0] ∧ NumAt wr (w.heap.size + 1) (sumE false (l.take k)) ∧ NumAt wr (w.heap.size + 2) (sumE true (l.take k))) (fun i _ => l.length - (intOf i).toNat)
  case atStart => exact ⟨0, by omega, rfl, HB.out, H2.out, H4.out, H5.out⟩
  case round =>
    obtain ⟨k, hk, rfl, hb, h2, h4, h5⟩ := hrel
    clear H2 H4 H5 HB
    have HB := Lib.hid hb
    have H2 := Lib.hid h2
    obtain ⟨sl4, h4, n4⟩ := h4
    obtain ⟨sl5, h5, n5⟩ := h5
    obtain ⟨x4, c4, rfl, _, _⟩ := SlR.shape n4
    obtain ⟨x5, c5, rfl, _, _⟩ := SlR.shape n5
    obtain ⟨z4, hz4⟩ : ∃ z, z = sumE false (l.take k) := ⟨_, rfl⟩
    obtain ⟨z5, hz5⟩ : ∃ z, z = sumE true (l.take k) := ⟨_, rfl⟩
    have hL4 := sum_len (by omega) (sumE_bound false l HI.out k hk)
    have hL5 := sum_len (by omega) (sumE_bound true l HI.out k hk)
    rw [← hz4] at h4 n4 hL4
    rw [← hz5] at h5 n5 hL5
    have HZ4 := Lib.hid hz4
    have HZ5 := Lib.hid hz5
    have HL4 := Lib.hid hL4
    have HL5 := Lib.hid hL5
    obtain ⟨f4, hf4⟩ : ∃ f, decide (z4 < 0) = f := ⟨_, rfl⟩
    obtain ⟨f5, hf5⟩ : ∃ f, decide (z5 < 0) = f := ⟨_, rfl⟩
    rw [hf4] at h4
    rw [hf5] at h5
    have HF4 := Lib.hid hf4
    have HF5 := Lib.hid hf5
    have N4 : Hid (NB wr (.slice x4 (digs z4.natAbs).length c4) z4.natAbs) := Lib.hid n4
    have N5 : Hid (NB wr (.slice x5 (digs z5.natAbs).length c5) z5.natAbs) := Lib.hid n5
    obtain ⟨l4, hl4⟩ : ∃ n, n = (digs z4.natAbs).length := ⟨_, rfl⟩
    obtain ⟨l5, hl5⟩ : ∃ n, n = (digs z5.natAbs).length := ⟨_, rfl⟩
    rw [← hl4] at h4 N4
    rw [← hl5] at h5 N5
    have H4 := Lib.hid h4
    have H5 := Lib.hid h5
    clear hb h2 h4 h5 n4 n5 hL4 hL5 hz4 hz5 hf4 hf5 hl4 hl5
    by_cases hlt : k < l.length
    · obtain ⟨b, o, rfl, c1, c2, _⟩ := (HV.out.keep HB.out).at hlt
      have HE4 := Lib.hid (sumE_succ false l k hlt)
      have HE5 := Lib.hid (sumE_succ true l k hlt)
      have HIK := Lib.hid (HI.out l[k] (List.getElem_mem hlt))
      obtain ⟨a1, ha1⟩ : ∃ a, a = l[k].1 := ⟨_, rfl⟩
      obtain ⟨a2, ha2⟩ : ∃ a, a = l[k].2 := ⟨_, rfl⟩
      replace HE4 : Hid (sumE false (l.take (k + 1)) = z4 + a1) := by show _ = _; rw [HE4.out, HZ4.out, ha1]; rfl
      replace HE5 : Hid (sumE true (l.take (k + 1)) = z5 + a2) := by show _ = _; rw [HE5.out, HZ5.out, ha2]; rfl
      rw [← ha1] at c1
      rw [← ha2] at c2
      replace HIK : Hid (I64 a1 ∧ I64 a2) := by rw [ha1, ha2]; exact HIK
      clear ha1 ha2
      go_upto_region 5 with (fail)
      refine Agg.wp_at fun w1 hw1 => ?_
      have hb : Below wr.heap.size wr w1 := by rw [hw1.out]; repeat (first | exact Below.refl _ _ | refine Agg.bel_drew ?_ | refine Agg.bel_alloc ?_ _)
      replace HB := Lib.hid (HB.out.trans (hb.mono HB.out.size))
      replace H2 := Lib.hid (H2.out.keep hb)
      replace H4 := Lib.hid (H4.out.keep hb)
      replace H5 := Lib.hid (H5.out.keep hb)
      replace N4 := Lib.hid (N4.out.keep hb)
      replace N5 := Lib.hid (N5.out.keep hb)
      clear hb
      have H7 : Hid (Blk w1 wr.heap.size 31 [.int .i64 a1, .int .i64 a2]) := by show Blk _ _ _ _; rw [hw1.out]; exact Blk.new wr 31 #[.int .i64 a1, .int .i64 a2]
      clear hw1
      generalize wr.heap.size = g7 at *
      refine Agg.chainR 10 (by kernel_rfl) (by kernel_rfl) ?_
      simp only [List.take_succ_cons, List.take_zero, List.drop_succ_cons, List.drop_zero]
      refine Agg.chRowB 2 H4.out rfl (by decide +kernel) rfl rfl rfl rfl ?_
      refine Agg.chFA (by first | exact fo_Num_0 | exact fo_Span_0) rfl rfl rfl rfl ?_
      refine Agg.chLoadB H7.out (by decide +kernel) rfl rfl (by rfl) rfl rfl ?_
      refine Agg.chCallG Try.func53 rfl (by kernel_rfl) (NumV a1) (NumV.stable _) rfl rfl rfl rfl (fun W hb => Int_any a1 HIK.out.1.1 HIK.out.1.2 W) ?_
      refine Agg.chCall_po Try.func56 rfl (by kernel_rfl) (.op (NumV (z4 + a1))) (NumV.stable _) 3 rfl rfl rfl rfl rfl rfl rfl (fun u W hb hg => Add_any z4 a1 (by have := HL4.out; omega) (by have := i64_len HIK.out.1.1 HIK.out.1.2; omega) _ u W ⟨_, by rw [HF4.out], SlR.keep N4.out hb⟩ hg) ?_
      refine Agg.chRowB 2 H5.out rfl (by decide +kernel) rfl rfl rfl rfl ?_
      refine Agg.chFA (by first | exact fo_Num_1 | exact fo_Span_1) rfl rfl rfl rfl ?_
      refine Agg.chLoadB H7.out (by decide +kernel) rfl rfl (by rfl) rfl rfl ?_
      refine Agg.chCallG Try.func53 rfl (by kernel_rfl) (NumV a2) (NumV.stable _) rfl rfl rfl rfl (fun W hb => Int_any a2 HIK.out.2.1 HIK.out.2.2 W) ?_
      refine Agg.chCall_po Try.func56 rfl (by kernel_rfl) (.op (NumV (z5 + a2))) (NumV.stable _) 8 rfl rfl rfl rfl rfl rfl rfl (fun u W hb hg => Add_any z5 a2 (by have := HL5.out; omega) (by have := i64_len HIK.out.2.1 HIK.out.2.2; omega) _ u W ⟨_, by rw [HF5.out], SlR.keep N5.out hb⟩ hg) ?_
      refine Agg.chEnd ?_
      intro vs w2 hb hf
      simp only [List.reverse, List.reverseAux, Agg.Facts] at hf
      obtain ⟨_, ⟨s1, hv1, hn1⟩, _, ⟨s2, hv2, hn2⟩, _⟩ := hf
      simp only [List.reverse, List.reverseAux, Agg.fill, List.set_cons_succ, List.set_cons_zero, hv1, hv2]
      clear hv1 hv2
      have h2 := H2.out.keep hb
      have h4 := H4.out.keep hb
      have h5 := H5.out.keep hb
      have hsz := HB.out.size
      replace HB := Lib.hid (HB.out.trans (hb.mono hsz))
      clear hb
      obtain ⟨t1, ht1⟩ : ∃ t, z4 + a1 = t := ⟨_, rfl⟩
      obtain ⟨t2, ht2⟩ : ∃ t, z5 + a2 = t := ⟨_, rfl⟩
      rw [ht1] at hn1 HE4 ⊢
      rw [ht2] at hn2 HE5 ⊢
      clear ht1 ht2
      obtain ⟨y1, e1, rfl, _, _⟩ := SlR.shape hn1
      obtain ⟨y2, e2, rfl, _, _⟩ := SlR.shape hn2
      obtain ⟨q1, hq1⟩ : ∃ f, decide (t1 < 0) = f := ⟨_, rfl⟩
      obtain ⟨q2, hq2⟩ : ∃ f, decide (t2 < 0) = f := ⟨_, rfl⟩
      rw [hq1, hq2]
      have HQ1 := Lib.hid hq1
      have HQ2 := Lib.hid hq2
      clear hq1 hq2
      have hnil : ∀ (xx : Option Addr) (a c : Nat) (z : Int), (Value.slice xx a c) ≠ .int .i64 z := by intro _ _ _ z hz; cases hz
      refine Agg.tStore 2 h4 rfl rfl rfl rfl rfl (by decide +kernel) rfl rfl (by simp [Value.oneCell']) (fun w30 hb30 hg30 => ?_)
      have hn1' := NB.far hn1 h4 (hnil _ _ _) hg30
      have hn2' := NB.far hn2 h4 (hnil _ _ _) hg30
      have h2' := h2.far' hg30 (by omega)
      have h5' := h5.far' hg30 (by omega)
      have HB2 := HB.out.trans (grown_below hg30 HB.out.size (fun j hj => (by cases hj; omega)))
      refine Agg.tStore 2 h5' rfl rfl rfl rfl rfl (by decide +kernel) rfl rfl (by simp [Value.oneCell']) (fun w31 hb31 hg31 => ?_)
      have hn1'' := NB.far hn1' h5' (hnil _ _ _) hg31
      have hn2'' := NB.far hn2' h5' (hnil _ _ _) hg31
      have h2'' := h2'.far' hg31 (by omega)
      have hb30' := hb30.far' hg31 (by omega)
      have HB3 := HB2.trans (grown_below hg31 HB2.size (fun j hj => (by cases hj; omega)))
      refine Agg.wpNil ?_
      go_wp2_with fail
      go_roundw
      case rel => exact ⟨k + 1, by omega, by go_num, HB3, h2'', by rw [HE4.out]; exact ⟨_, by rw [HQ1.out]; exact hb30', hn1''⟩, by rw [HE5.out]; exact ⟨_, by rw [HQ2.out]; exact hb31, hn2''⟩⟩
      case measure => simp [intOf]; omega
    · obtain rfl : k = l.length := by omega
      have HR2 : Hid (ofR z4 z5 = ((r1, r2), r3)) := by
        have h1 := HZ4.out
        have h2 := HZ5.out
        rw [List.take_length] at h1 h2
        show _ = _
        rw [h1, h2]; exact HR.out
      clear HZ4 HZ5
      go_upto_region 7 with (fail)
      refine Agg.listR 5 (by kernel_rfl) ?_
      simp only [List.take_succ_cons, List.take_zero, List.drop_succ_cons, List.drop_zero]
      refine Agg.chRowB 2 H4.out rfl (by decide +kernel) rfl rfl rfl rfl ?_
      refine Agg.chRowB 2 H5.out rfl (by decide +kernel) rfl rfl rfl rfl ?_
      refine Agg.chCall Try.func54 rfl (by kernel_rfl) rfl rfl rfl rfl (fun W hb => (Of_any z4 z5 (by have := HL4.out; omega) (by have := HL5.out; omega) _ _ W ⟨_, by rw [HF4.out], SlR.keep N4.out hb⟩ ⟨_, by rw [HF5.out], SlR.keep N5.out hb⟩).mono (fun e w' ⟨q1, q2⟩ => (⟨by rw [q1, HR2.out], q2⟩ : e = .returned (.tuple #[.agg #[.int .i64 r1, .int .i64 r2], .bool r3]) ∧ _))) ?_
      refine Agg.chExtract rfl rfl rfl rfl rfl ?_
      refine Agg.chExtract rfl rfl rfl rfl rfl ?_
      refine Agg.chEnd ?_
      intro vs w3 hb hf
      simp only [List.reverse, List.reverseAux, Agg.Facts] at hf
      obtain _ := hf
      simp only [List.reverse, List.reverseAux, Agg.fill, List.set_cons_succ, List.set_cons_zero]
      have h2 := H2.out.keep hb
      have hsz := HB.out.size
      replace HB := Lib.hid (HB.out.trans (hb.mono hsz))
      clear hb
      have hsz2 := HB.out.size
      go_wp2_with (refine Agg.gStoreB 2 [.int .i64 r1, .int .i64 r2] h2 rfl rfl rfl rfl rfl (by decide +kernel) rfl rfl (by simp [Value.oneCell']) (fun w30 hb30 hg30 => ?_))
      refine bodyPost_ret (results_row2 (m := 2) rfl hb30 rfl (by decide +kernel) rfl) rfl ⟨rfl, ?_⟩
      exact HB.out.trans (grown_below hg30 hsz2 (fun j hj => (by cases hj; exact Nat.le_refl _)))
end Go.Proofs.Ytcedalenjcbnmaa
