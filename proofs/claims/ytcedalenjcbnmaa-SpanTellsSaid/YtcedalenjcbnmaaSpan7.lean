/-
  THE WALKS OF LAYER 4 (span), seventh part: both, Plus, Around.
-/
import Derived.Test.YtcedalenjcbnmaaSpan6
namespace Go.Proofs.Ytcedalenjcbnmaa
open Go.ChangeShapes Go.WideShapes Go.ChangeAt Go.RowKit Agg

theorem both_any (w : World) :
    Calls Try.prog 44 #[] w fun e w' => e = .returned (.slice (some ⟨w.heap.size, 0, none⟩) 2 2) ∧ w' = w.alloc (.cells #[.func (.func 68) #[] #[], .func (.func 69) #[] #[]] 53) := by
  have HB := Lib.hid (Below.refl w.heap.size w)
  go_enter Try.func44, Try.ntmps44
  go_wp2
  go_ret
  exact ⟨rfl, rfl⟩
def plusR (l : List Sp) : Sp × Int :=
  if okAll l then (if fitB (sumE false l) && fitB (sumE true l) then ((sumE false l, sumE true l), 0) else ((0, 0), 5)) else ((0, 0), 140)
theorem sumE_le (l : List Sp) (h : okAll l = true) : sumE false l ≤ sumE true l := by
  unfold sumE
  induction l with
  | nil => simp
  | cons s l ih =>
    simp only [okAll, List.all_cons, Bool.and_eq_true, decide_eq_true_eq] at h
    have := ih (by simpa [okAll] using h.2)
    simp only [List.map_cons, List.sum_cons, endF]
    omega
def PlusInv (w2 : World) (g5 gf : Nat) (pl ph : Int) (q1 q2 : Bool) (i : Value) (wr : World) : Prop :=
  ∃ k : Nat, i = .int .i64 k ∧ Below w2.heap.size w2 wr ∧ Blk wr gf 53 [.func (.func 68) #[] #[], .func (.func 69) #[] #[]] ∧
    ((k = 0 ∧ Blk wr g5 74 [.int .i64 0, .int .i64 0]) ∨ (k = 1 ∧ q1 = true ∧ Blk wr g5 74 [.int .i64 pl, .int .i64 0]) ∨ (k = 2 ∧ q1 = true ∧ q2 = true ∧ Blk wr g5 74 [.int .i64 pl, .int .i64 ph]))
set_option maxHeartbeats 2000000 in
theorem Plus_any (l : List Sp) (v : Value) (w : World) (hv : Spans w v l) (hn : l.length ≤ 1000) (hI : ∀ s ∈ l, I64 s.1 ∧ I64 s.2) (r : Sp) (er : Int) (hr : plusR l = (r, er)) :
    Calls Try.prog 15 #[v] w fun e w' => e = .returned (.tuple #[.agg #[.int .i64 r.1, .int .i64 r.2], .int .i64 er]) ∧ Below w.heap.size w w' := by
  obtain ⟨x, cap, rfl, _, _⟩ := hv.shape
  have HV := Lib.hid hv
  have HI := Lib.hid hI
  have HR := Lib.hid hr
  have HN := Lib.hid hn
  clear hv hI hr hn
  by_cases hok : okAll l = true
  · have HE : Hid (okE l = 0) := if_pos hok
    have HLE := Lib.hid (sumE_le l hok)
    obtain ⟨L, hL⟩ : ∃ L, sumE false l = L := ⟨_, rfl⟩
    obtain ⟨H, hH⟩ : ∃ H, sumE true l = H := ⟨_, rfl⟩
    obtain ⟨q1, hq1⟩ : ∃ q1, fitB L = q1 := ⟨_, rfl⟩
    obtain ⟨q2, hq2⟩ : ∃ q2, fitB H = q2 := ⟨_, rfl⟩
    have HRR : Hid (if q1 && q2 then r = (w64 L, w64 H) ∧ er = 0 ∧ w64 L ≤ w64 H else r = (0, 0) ∧ er = 5) := by
      have h1 := HR.out
      have h2 := HLE.out
      show if _ then _ else _
      rw [plusR, if_pos hok, hL, hH, hq1, hq2] at h1
      rw [hL, hH] at h2
      split at h1
      · rename_i hqq
        rw [if_pos hqq]
        simp only [Bool.and_eq_true] at hqq
        obtain ⟨rfl, rfl⟩ := hqq
        rw [w64_in (fitB_true.1 hq1), w64_in (fitB_true.1 hq2)]
        simp only [Prod.mk.injEq] at h1
        exact ⟨h1.1.symm, h1.2.symm, h2⟩
      · rename_i hqq
        rw [if_neg hqq]
        simp only [Prod.mk.injEq] at h1
        exact ⟨h1.1.symm, h1.2.symm⟩
    have HL := Lib.hid hL
    have HH := Lib.hid hH
    have HQ1 := Lib.hid hq1
    have HQ2 := Lib.hid hq2
    clear hok hL hH hq1 hq2 HLE HR
    obtain ⟨pl, hpl⟩ : ∃ pl, w64 L = pl := ⟨_, rfl⟩
    obtain ⟨ph, hph⟩ : ∃ ph, w64 H = ph := ⟨_, rfl⟩
    rw [hpl, hph] at HRR
    have HPL := Lib.hid hpl
    have HPH := Lib.hid hph
    clear hpl hph
    have HV0 := Lib.hid HV.out
    have HB := Lib.hid (Below.refl w.heap.size w)
    go_enter Try.func15, Try.ntmps15
    go_wp2_with fail
    go_step3
    go_wp2_with fail
    refine Agg.calls_at fun w1 hw1 => ?_
    have hb : Below w.heap.size w w1 := by rw [hw1.out]; repeat (first | exact Below.refl _ _ | refine Agg.bel_drew ?_ | refine Agg.bel_alloc ?_ _)
    replace HB := Lib.hid (HB.out.trans (hb.mono HB.out.size))
    replace HV0 := Lib.hid (HV0.out.keep hb)
    clear hb
    have HG : Hid (Blk w1 w.heap.size 31 [.int .i64 0, .int .i64 0]) := by show Blk _ _ _ _; rw [hw1.out]; exact Blk.new w 31 #[.int .i64 0, .int .i64 0]
    clear hw1
    refine (checked_any l _ w1 HV0.out).mono ?_
    rintro e w2 ⟨rfl, hb⟩
    replace HB := Lib.hid (HB.out.trans (hb.mono HB.out.size))
    replace HV0 := Lib.hid (HV0.out.keep hb)
    replace HG := Lib.hid (HG.out.keep hb)
    clear hb
    rw [HE.out]
    go_wp2_with fail
    go_step3
    go_wp2_with fail
    have HV2 := HV0
    have HG2 := HG
    have HB2 := HB
    refine Agg.calls_at fun w3 hw3 => ?_
    have HT3 : Hid (Blk w3 w2.heap.size 74 [.int .i64 0, .int .i64 0]) := by show Blk _ _ _ _; rw [hw3.out]; exact Blk.new w2 74 #[.int .i64 0, .int .i64 0]
    have hb3 : Below w2.heap.size w2 w3 := by rw [hw3.out]; exact bel_alloc (Below.refl _ _) _
    have hlt3 : w2.heap.size < w3.heap.size := HT3.out.lt
    clear hw3 HV0 HG HB
    refine (both_any w3).mono ?_
    rintro e w4 ⟨rfl, hw4⟩
    have HF4 : Hid (Blk w4 w3.heap.size 53 [.func (.func 68) #[] #[], .func (.func 69) #[] #[]]) := by
      show Blk _ _ _ _; rw [hw4]; exact Blk.new w3 53 #[.func (.func 68) #[] #[], .func (.func 69) #[] #[]]
    have HT4 : Hid (Blk w4 w2.heap.size 74 [.int .i64 0, .int .i64 0]) := by show Blk _ _ _ _; rw [hw4]; exact HT3.out.al _
    have HB4 : Hid (Below w2.heap.size w2 w4) := by show Below _ _ _; rw [hw4]; exact bel_alloc hb3 _
    clear hw4 hb3 HT3
    have CKF : Hid (ckE (9223372036854775807, -9223372036854775808) = 140) := by show _ = _; decide
    go_wp2_with fail
    go_loopw [19] (fun i wr => PlusInv w2 w2.heap.size w3.heap.size pl ph q1 q2 i wr) (fun i _ => 2 - (intOf i).toNat)
    case atStart => exact ⟨0, rfl, HB4.out, HF4.out, .inl ⟨rfl, HT4.out⟩⟩
    case round =>
      obtain ⟨k, rfl, hb, hf, hcase⟩ := hrel
      have HK := Lib.hid hb
      have HF := Lib.hid hf
      clear hb hf
      have c0 := HF.out.cell 0
      have c1 := HF.out.cell 1
      simp only [List.getElem?_cons_zero, List.getElem?_cons_succ] at c0 c1
      rcases hcase with ⟨rfl, ht⟩ | ⟨rfl, rfl, ht⟩ | ⟨rfl, rfl, rfl, ht⟩
      · have HT := Lib.hid ht
        clear ht
        go_wp2_with fail
        refine (total_false l _ wr (HV2.out.keep HK.out) HN.out HI.out L HL.out q1 HQ1.out pl HPL.out).mono ?_
        rintro e w5 ⟨rfl, hb5⟩
        replace HT := Lib.hid (HT.out.keep hb5)
        replace HF := Lib.hid (HF.out.keep hb5)
        replace HK := Lib.hid (HK.out.trans (hb5.mono HK.out.size))
        have HB := Lib.hid (HB2.out.trans (HK.out.mono HB2.out.size))
        have HG := Lib.hid (HG2.out.keep HK.out)
        clear hb5 c0 c1
        have d0 := HT.out.cell 0
        have d1 := HT.out.cell 1
        have g0 := HT.out.frozen 0
        have g1 := HT.out.frozen 1
        simp only [List.getElem?_cons_zero, List.getElem?_cons_succ] at d0 d1
        cases q1
        · have HRR' : Hid (r = (0, 0) ∧ er = 5) := HRR.out
          go_wp2_with fail
          refine Agg.calls_at fun w6 hw6 => ?_
          replace HB : Hid (Below w.heap.size w w6) := by show Below _ _ _; rw [hw6.out]; exact (HB.out.setCell HB2.out.size _).setCell HB2.out.size _
          replace HG : Hid (Blk w6 w.heap.size 31 [.int .i64 0, .int .i64 0]) := by show Blk _ _ _ _; rw [hw6.out]; exact (HG.out.far (Nat.ne_of_lt HG2.out.lt) _).far (Nat.ne_of_lt HG2.out.lt) _
          clear hw6
          refine (span_any _ _ _).mono ?_
          rintro e w7 ⟨rfl, hb⟩
          replace HB := Lib.hid (HB.out.trans (hb.mono HB.out.size))
          replace HG := Lib.hid (HG.out.keep hb)
          clear hb
          go_wp2_with fail
          refine Agg.calls_at fun w8 hw8 => ?_
          have hb : Below w7.heap.size w7 w8 := by rw [hw8.out]; repeat (first | exact Below.refl _ _ | refine Agg.bel_drew ?_ | refine Agg.bel_alloc ?_ _)
          replace HB := Lib.hid (HB.out.trans (hb.mono HB.out.size))
          replace HG := Lib.hid (HG.out.keep hb)
          clear hb
          refine (check_any _ _ w8).mono ?_
          rintro e w9 ⟨rfl, hb⟩
          replace HB := Lib.hid (HB.out.trans (hb.mono HB.out.size))
          replace HG := Lib.hid (HG.out.keep hb)
          clear hb
          rw [CKF.out]
          have e0 := HG.out.cell 0
          have e1 := HG.out.cell 1
          have f0 := HG.out.frozen 0
          have f1 := HG.out.frozen 1
          simp only [List.getElem?_cons_zero, List.getElem?_cons_succ] at e0 e1
          go_wp2_with fail
          rw [Exit.noGoto_ret]
          obtain ⟨rfl, rfl⟩ := HRR'.out
          exact bodyPost_ret (v := .tuple #[.agg #[.int .i64 0, .int .i64 0], .int .i64 5]) (by simp [results, Try.results15, go_sem, e0, e1]) rfl ⟨rfl, (HB.out.setCell (Nat.le_refl _) _).setCell (Nat.le_refl _) _⟩
        · go_wp2_with fail
          go_roundw
          case rel =>
            refine ⟨1, rfl, HK.out.setCell (Nat.le_refl _) _, HF.out.far (by simp; omega) _, .inr (.inl ⟨rfl, rfl, ?_⟩)⟩
            exact HT.out.set 0 _
          case measure => simp [intOf]
      · have HT := Lib.hid ht
        clear ht
        go_wp2_with fail
        refine (total_true l _ wr (HV2.out.keep HK.out) HN.out HI.out H HH.out q2 HQ2.out ph HPH.out).mono ?_
        rintro e w5 ⟨rfl, hb5⟩
        replace HT := Lib.hid (HT.out.keep hb5)
        replace HF := Lib.hid (HF.out.keep hb5)
        replace HK := Lib.hid (HK.out.trans (hb5.mono HK.out.size))
        have HB := Lib.hid (HB2.out.trans (HK.out.mono HB2.out.size))
        have HG := Lib.hid (HG2.out.keep HK.out)
        clear hb5 c0 c1
        have d0 := HT.out.cell 0
        have d1 := HT.out.cell 1
        have g0 := HT.out.frozen 0
        have g1 := HT.out.frozen 1
        simp only [List.getElem?_cons_zero, List.getElem?_cons_succ] at d0 d1
        cases q2
        · have HRR' : Hid (r = (0, 0) ∧ er = 5) := HRR.out
          go_wp2_with fail
          refine Agg.calls_at fun w6 hw6 => ?_
          replace HB : Hid (Below w.heap.size w w6) := by show Below _ _ _; rw [hw6.out]; exact (HB.out.setCell HB2.out.size _).setCell HB2.out.size _
          replace HG : Hid (Blk w6 w.heap.size 31 [.int .i64 0, .int .i64 0]) := by show Blk _ _ _ _; rw [hw6.out]; exact (HG.out.far (Nat.ne_of_lt HG2.out.lt) _).far (Nat.ne_of_lt HG2.out.lt) _
          clear hw6
          refine (span_any _ _ _).mono ?_
          rintro e w7 ⟨rfl, hb⟩
          replace HB := Lib.hid (HB.out.trans (hb.mono HB.out.size))
          replace HG := Lib.hid (HG.out.keep hb)
          clear hb
          go_wp2_with fail
          refine Agg.calls_at fun w8 hw8 => ?_
          have hb : Below w7.heap.size w7 w8 := by rw [hw8.out]; repeat (first | exact Below.refl _ _ | refine Agg.bel_drew ?_ | refine Agg.bel_alloc ?_ _)
          replace HB := Lib.hid (HB.out.trans (hb.mono HB.out.size))
          replace HG := Lib.hid (HG.out.keep hb)
          clear hb
          refine (check_any _ _ w8).mono ?_
          rintro e w9 ⟨rfl, hb⟩
          replace HB := Lib.hid (HB.out.trans (hb.mono HB.out.size))
          replace HG := Lib.hid (HG.out.keep hb)
          clear hb
          rw [CKF.out]
          have e0 := HG.out.cell 0
          have e1 := HG.out.cell 1
          have f0 := HG.out.frozen 0
          have f1 := HG.out.frozen 1
          simp only [List.getElem?_cons_zero, List.getElem?_cons_succ] at e0 e1
          go_wp2_with fail
          rw [Exit.noGoto_ret]
          obtain ⟨rfl, rfl⟩ := HRR'.out
          exact bodyPost_ret (v := .tuple #[.agg #[.int .i64 0, .int .i64 0], .int .i64 5]) (by simp [results, Try.results15, go_sem, e0, e1]) rfl ⟨rfl, (HB.out.setCell (Nat.le_refl _) _).setCell (Nat.le_refl _) _⟩
        · go_wp2_with fail
          go_roundw
          case rel =>
            refine ⟨2, rfl, HK.out.setCell (Nat.le_refl _) _, HF.out.far (by simp; omega) _, .inr (.inr ⟨rfl, rfl, rfl, ?_⟩)⟩
            exact HT.out.set 1 _
          case measure => simp [intOf]
      · have HT := Lib.hid ht
        have HRR' : Hid (r = (pl, ph) ∧ er = 0 ∧ pl ≤ ph) := HRR.out
        have CKT : Hid (ckE (pl, ph) = 0) := if_neg (by have := HRR'.out.2.2; simpa using this)
        have HB := Lib.hid (HB2.out.trans (HK.out.mono HB2.out.size))
        have HG := Lib.hid (HG2.out.keep HK.out)
        clear ht
        have d0 := HT.out.cell 0
        have d1 := HT.out.cell 1
        simp only [List.getElem?_cons_zero, List.getElem?_cons_succ] at d0 d1
        go_wp2_with fail
        refine (span_any _ _ _).mono ?_
        rintro e w10 ⟨rfl, hb⟩
        replace HB := Lib.hid (HB.out.trans (hb.mono HB.out.size))
        replace HG := Lib.hid (HG.out.keep hb)
        clear hb
        go_wp2_with fail
        refine Agg.calls_at fun w11 hw11 => ?_
        have hb : Below w10.heap.size w10 w11 := by rw [hw11.out]; repeat (first | exact Below.refl _ _ | refine Agg.bel_drew ?_ | refine Agg.bel_alloc ?_ _)
        replace HB := Lib.hid (HB.out.trans (hb.mono HB.out.size))
        replace HG := Lib.hid (HG.out.keep hb)
        clear hb
        have HX : Hid (Blk w11 w10.heap.size 31 [.int .i64 pl, .int .i64 ph]) := by show Blk _ _ _ _; rw [hw11.out]; exact Blk.new w10 31 #[.int .i64 pl, .int .i64 ph]
        clear hw11
        refine (check_any _ _ w11).mono ?_
        rintro e w12 ⟨rfl, hb⟩
        replace HB := Lib.hid (HB.out.trans (hb.mono HB.out.size))
        replace HG := Lib.hid (HG.out.keep hb)
        replace HX := Lib.hid (HX.out.keep hb)
        clear hb
        rw [CKT.out]
        have e0 := HG.out.cell 0
        have e1 := HG.out.cell 1
        have f0 := HG.out.frozen 0
        have f1 := HG.out.frozen 1
        have x0 := HX.out.cell 0
        have x1 := HX.out.cell 1
        simp only [List.getElem?_cons_zero, List.getElem?_cons_succ] at e0 e1 x0 x1
        go_wp2_with fail
        rw [Exit.noGoto_ret]
        obtain ⟨rfl, rfl, _⟩ := HRR'.out
        exact bodyPost_ret (v := .tuple #[.agg #[.int .i64 pl, .int .i64 ph], .int .i64 0]) (by simp [results, Try.results15, go_sem, e0, e1]) rfl ⟨rfl, (HB.out.setCell (Nat.le_refl _) _).setCell (Nat.le_refl _) _⟩
  · have HE : Hid (okE l = 140) := if_neg hok
    have HRR : Hid (r = (0, 0) ∧ er = 140) := by
      show _ ∧ _
      have := HR.out
      rw [plusR, if_neg hok] at this
      simp only [Prod.mk.injEq] at this
      exact ⟨this.1.symm, this.2.symm⟩
    clear hok HR
    have HV0 := Lib.hid HV.out
    have HB := Lib.hid (Below.refl w.heap.size w)
    go_enter Try.func15, Try.ntmps15
    go_wp2_with fail
    go_step3
    go_wp2_with fail
    refine Agg.calls_at fun w1 hw1 => ?_
    have hb : Below w.heap.size w w1 := by rw [hw1.out]; repeat (first | exact Below.refl _ _ | refine Agg.bel_drew ?_ | refine Agg.bel_alloc ?_ _)
    replace HB := Lib.hid (HB.out.trans (hb.mono HB.out.size))
    replace HV0 := Lib.hid (HV0.out.keep hb)
    clear hb
    have HG : Hid (Blk w1 w.heap.size 31 [.int .i64 0, .int .i64 0]) := by show Blk _ _ _ _; rw [hw1.out]; exact Blk.new w 31 #[.int .i64 0, .int .i64 0]
    clear hw1
    refine (checked_any l _ w1 HV0.out).mono ?_
    rintro e w2 ⟨rfl, hb⟩
    replace HB := Lib.hid (HB.out.trans (hb.mono HB.out.size))
    replace HV0 := Lib.hid (HV0.out.keep hb)
    replace HG := Lib.hid (HG.out.keep hb)
    clear hb
    rw [HE.out]
    have e0 := HG.out.cell 0
    have e1 := HG.out.cell 1
    have f0 := HG.out.frozen 0
    have f1 := HG.out.frozen 1
    simp only [List.getElem?_cons_zero, List.getElem?_cons_succ] at e0 e1
    go_wp2_with fail
    rw [Exit.noGoto_ret]
    obtain ⟨rfl, rfl⟩ := HRR.out
    exact bodyPost_ret (v := .tuple #[.agg #[.int .i64 0, .int .i64 0], .int .i64 140]) (by simp [results, Try.results15, go_sem, e0, e1]) rfl ⟨rfl, (HB.out.setCell (Nat.le_refl _) _).setCell (Nat.le_refl _) _⟩
def aroundR (v far : Int) : Sp × Int := if far < 0 then ((0, 0), 2) else plusR [(v, v), (-far, far)]
set_option maxHeartbeats 1000000 in
theorem Around_any (v far : Int) (w : World) (hv : I64 v) (hf : I64 far) (r : Sp) (er : Int) (hr : aroundR v far = (r, er)) :
    Calls Try.prog 24 #[.int .i64 v, .int .i64 far] w fun e w' => e = .returned (.tuple #[.agg #[.int .i64 r.1, .int .i64 r.2], .int .i64 er]) ∧ Below w.heap.size w w' := by
  by_cases h : far < 0
  · have HRR : Hid (r = (0, 0) ∧ er = 2) := by
      show _ ∧ _
      rw [aroundR, if_pos h] at hr
      simp only [Prod.mk.injEq] at hr
      exact ⟨hr.1.symm, hr.2.symm⟩
    clear hr hv hf
    have HB := Lib.hid (Below.refl w.heap.size w)
    go_enter Try.func24, Try.ntmps24
    go_wp2
    obtain ⟨rfl, rfl⟩ := HRR.out
    exact bodyPost_ret (v := .tuple #[.agg #[.int .i64 0, .int .i64 0], .int .i64 2]) (by simp [results, Try.results24, go_sem]) rfl ⟨rfl, bel_alloc HB.out _⟩
  · have HR : Hid (plusR [(v, v), (-far, far)] = (r, er)) := by
      show _ = _
      rw [aroundR, if_neg h] at hr; exact hr
    have hI : Hid (∀ s ∈ [(v, v), (-far, far)], I64 s.1 ∧ I64 s.2) := by
      intro s hs
      simp only [List.mem_cons, List.not_mem_nil, or_false] at hs
      rcases hs with rfl | rfl
      · exact ⟨hv, hv⟩
      · exact ⟨by unfold I64 at *; simp only; omega, hf⟩
    have hfar : far ≤ 9223372036854775807 := hf.2
    clear hr hv hf
    have HB := Lib.hid (Below.refl w.heap.size w)
    go_enter Try.func24, Try.ntmps24
    go_wp2_with fail
    refine Agg.calls_at fun w1 hw1 => ?_
    have hb : Below w.heap.size w w1 := by rw [hw1.out]; repeat (first | exact Below.refl _ _ | refine Agg.bel_drew ?_ | refine Agg.bel_alloc ?_ _)
    replace HB := Lib.hid (HB.out.trans (hb.mono HB.out.size))
    clear hb
    have HG : Hid (Blk w1 w.heap.size 31 [.int .i64 0, .int .i64 0]) := by show Blk _ _ _ _; rw [hw1.out]; exact Blk.new w 31 #[.int .i64 0, .int .i64 0]
    clear hw1
    refine (point_any _ _).mono ?_
    rintro e w2 ⟨rfl, hb⟩
    replace HB := Lib.hid (HB.out.trans (hb.mono HB.out.size))
    replace HG := Lib.hid (HG.out.keep hb)
    clear hb
    have HS := Lib.hid (spans_two w2 v v (-far) far w2.heap.size rfl)
    go_wp2_with fail
    refine Agg.calls_at fun w3 hw3 => ?_
    have hb : Below w2.heap.size w2 w3 := by rw [hw3.out]; repeat (first | exact Below.refl _ _ | refine Agg.bel_drew ?_ | refine Agg.bel_alloc ?_ _)
    replace HB := Lib.hid (HB.out.trans (hb.mono HB.out.size))
    replace HG := Lib.hid (HG.out.keep hb)
    clear hb
    rw [← hw3.out] at HS
    clear hw3
    refine (Plus_any _ _ w3 HS.out (by simp) hI.out r er HR.out).mono ?_
    rintro e w4 ⟨rfl, hb⟩
    replace HB := Lib.hid (HB.out.trans (hb.mono HB.out.size))
    replace HG := Lib.hid (HG.out.keep hb)
    clear hb
    have e0 := HG.out.cell 0
    have e1 := HG.out.cell 1
    have f0 := HG.out.frozen 0
    have f1 := HG.out.frozen 1
    simp only [List.getElem?_cons_zero, List.getElem?_cons_succ] at e0 e1
    go_wp2_with fail
    exact bodyPost_ret (v := .tuple #[.agg #[.int .i64 r.1, .int .i64 r.2], .int .i64 er]) (by simp [results, Try.results24, go_sem, e0, e1]) rfl ⟨rfl, (HB.out.setCell (Nat.le_refl _) _).setCell (Nat.le_refl _) _⟩
end Go.Proofs.Ytcedalenjcbnmaa
