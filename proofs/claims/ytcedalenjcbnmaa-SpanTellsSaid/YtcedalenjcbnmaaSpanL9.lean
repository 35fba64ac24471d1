/-
  THE WALK OF LAYER 4's STATEMENT SpanSums.
-/
import Derived.Test.YtcedalenjcbnmaaSpanL7
import Derived.Test.YtcedalenjcbnmaaSpanL8
import Derived.Test.YtcedalenjcbnmaaWdG
import Derived.Deep.DeepCutAuto
import Derived.Deep.CutBlock
namespace Go.Proofs.Ytcedalenjcbnmaa
open Go.ChangeShapes Go.WideShapes Go.ChangeAt Go.RowKit Agg

/-- what is asked of a sum: the document's answer and the code's -/
def Told (right : Bool) (p : Sp) (e : Int) (r : Sp) (ok : Bool) : Prop :=
  if right = true then (if ok = true then e = 0 ∧ p = r ∧ I64 r.1 ∧ I64 r.2 else e = 5 ∧ p = (0, 0)) else e = 140 ∧ p = (0, 0)
theorem ofR_told (a b : Int) : (ofR a b).2 = (fitB a && fitB b) ∧ ((ofR a b).2 = true → (ofR a b).1 = (a, b) ∧ I64 a ∧ I64 b) := by
  unfold ofR
  rw [← fits_both, ← fits_both]
  cases h : (fitB a && fitB b)
  · simp
  · simp only [Bool.and_eq_true, fitB_true] at h
    simp [h]
theorem plus_told (L : List Sp) (p r : Sp) (e : Int) (ok : Bool) (hp : plusR L = (p, e)) (hr : ofR (sumE false L) (sumE true L) = (r, ok)) : Told (okAll L) p e r ok := by
  obtain ⟨h1, h2⟩ := ofR_told (sumE false L) (sumE true L)
  rw [hr] at h1 h2
  simp only at h1 h2
  unfold plusR at hp
  unfold Told
  by_cases ho : okAll L = true
  · rw [if_pos ho] at hp ⊢
    rw [← h1] at hp
    cases ok
    · simp only [Bool.false_eq_true, if_false, Prod.mk.injEq] at hp ⊢
      exact ⟨hp.2.symm, hp.1.symm⟩
    · obtain ⟨e1, e2, e3⟩ := h2 rfl
      simp only [if_true, Prod.mk.injEq] at hp ⊢
      rw [e1]
      exact ⟨hp.2.symm, hp.1.symm, e2, e3⟩
  · rw [if_neg ho] at hp ⊢
    simp only [Prod.mk.injEq] at hp
    exact ⟨hp.2.symm, hp.1.symm⟩
theorem times_told (a b n : Int) (p r : Sp) (e : Int) (ok : Bool) (hp : timesR (a, b) n = (p, e)) (hr : timesD a b n = (r, ok)) : Told (decide (a ≤ b)) p e r ok := by
  unfold timesR at hp
  unfold Told
  by_cases ho : a ≤ b
  · rw [if_neg (by simp only; omega)] at hp
    rw [if_pos (decide_eq_true ho)]
    unfold timesD at hr
    by_cases hn : n < 0
    · rw [if_pos hn] at hr
      obtain ⟨h1, h2⟩ := ofR_told (b * n) (a * n)
      rw [hr] at h1 h2
      simp only at h1 h2
      have hle : b * n ≤ a * n := Int.mul_le_mul_of_nonpos_right ho (by omega)
      simp only at hp
      rw [Bool.and_comm, ← h1] at hp
      cases ok
      · simp only [Bool.false_eq_true, if_false, Prod.mk.injEq] at hp ⊢
        exact ⟨hp.2.symm, hp.1.symm⟩
      · obtain ⟨e1, e2, e3⟩ := h2 rfl
        simp only [if_true, Prod.mk.injEq] at hp ⊢
        rw [e1, ← hp.1, ← hp.2]
        refine ⟨rfl, ?_, e2, e3⟩
        rw [Int.min_eq_right hle, Int.max_eq_left hle]
    · rw [if_neg hn] at hr
      obtain ⟨h1, h2⟩ := ofR_told (a * n) (b * n)
      rw [hr] at h1 h2
      simp only at h1 h2
      have hle : a * n ≤ b * n := Int.mul_le_mul_of_nonneg_right ho (by omega)
      simp only at hp
      rw [← h1] at hp
      cases ok
      · simp only [Bool.false_eq_true, if_false, Prod.mk.injEq] at hp ⊢
        exact ⟨hp.2.symm, hp.1.symm⟩
      · obtain ⟨e1, e2, e3⟩ := h2 rfl
        simp only [if_true, Prod.mk.injEq] at hp ⊢
        rw [e1, ← hp.1, ← hp.2]
        refine ⟨rfl, ?_, e2, e3⟩
        rw [Int.min_eq_left hle, Int.max_eq_right hle]
  · rw [if_pos (by simp only; omega)] at hp
    rw [if_neg (by simpa using ho)]
    simp only [Prod.mk.injEq] at hp
    exact ⟨hp.2.symm, hp.1.symm⟩
set_option maxHeartbeats 4000000 in
set_option maxRecDepth 100000 in
theorem sums_any (l : List Sp) (v : Value) (n : Int) (w : World) (hv : Spans w v l) (hl : ∀ s ∈ l, I64 s.1 ∧ I64 s.2) (hn : I64 n) :
    Calls Try.prog 10 #[v, .int .i64 n] w fun e w' => e = .returned (.bool true) ∧ Below w.heap.size w w' := by
  have HV := Lib.hid hv
  obtain ⟨x0, c0, rfl, _, _⟩ := hv.shape
  obtain ⟨L, hL⟩ : ∃ L, L = l.take 20 := ⟨_, rfl⟩
  have hLI : ∀ s ∈ L, I64 s.1 ∧ I64 s.2 := by rw [hL]; exact fun s hs => hl s (List.mem_of_mem_take hs)
  have hLN : L.length ≤ 20 := by rw [hL, List.length_take]; omega
  obtain ⟨⟨⟨p1, p2⟩, pe⟩, hp⟩ : ∃ r, plusR L = r := ⟨_, rfl⟩
  obtain ⟨⟨⟨r1, r2⟩, rok⟩, hr⟩ : ∃ r, ofR (sumE false L) (sumE true L) = r := ⟨_, rfl⟩
  have HT := Lib.hid (plus_told L (p1, p2) (r1, r2) pe rok hp hr)
  have HP := Lib.hid hp
  have HR := Lib.hid hr
  have HLL := Lib.hid hL
  have HLI := Lib.hid hLI
  have HN := Lib.hid hLN
  have HNN := Lib.hid hn
  clear hv hl hL hLI hLN hn hp hr
  have HB := Lib.hid (Below.refl w.heap.size w)
  go_enter Try.func10, Try.ntmps10
  go_wp2_with fail
  refine (wakes_any w).mono ?_
  rintro e w1 ⟨rfl, hb⟩
  replace HB := Lib.hid (HB.out.trans (hb.mono HB.out.size))
  replace HV := Lib.hid (HV.out.keep hb)
  clear hb
  go_wp2_with fail
  refine (few_any l _ w1 HV.out).mono ?_
  rintro e w2 ⟨u, rfl, hu, hb⟩
  replace HB := Lib.hid (HB.out.trans (hb.mono HB.out.size))
  replace HV := Lib.hid (HV.out.keep hb)
  clear hb
  rw [← HLL.out] at hu
  have HL : Hid (Spans w2 u L) := Lib.hid hu
  obtain ⟨xu, cu, rfl, hu2, hu3⟩ := hu.shape
  unfold maxLen at hu3
  clear hu
  go_wp2_with fail
  refine (Plus_any L _ w2 HL.out (by have := HN.out; omega) HLI.out (p1, p2) pe HP.out).mono ?_
  rintro e w3 ⟨rfl, hb⟩
  replace HB := Lib.hid (HB.out.trans (hb.mono HB.out.size))
  replace HV := Lib.hid (HV.out.keep hb)
  replace HL := Lib.hid (HL.out.keep hb)
  clear hb
  go_wp2_with fail
  refine Agg.calls_at fun w4 hw4 => ?_
  have hb : Below w3.heap.size w3 w4 := by rw [hw4.out]; repeat (first | exact Below.refl _ _ | refine Agg.bel_drew ?_ | refine Agg.bel_alloc ?_ _)
  replace HB := Lib.hid (HB.out.trans (hb.mono HB.out.size))
  replace HV := Lib.hid (HV.out.keep hb)
  replace HL := Lib.hid (HL.out.keep hb)
  clear hb
  have H6 : Hid (Blk w4 w3.heap.size 31 [.int .i64 p1, .int .i64 p2]) := by show Blk _ _ _ _; rw [hw4.out]; exact Blk.new w3 31 #[.int .i64 p1, .int .i64 p2]
  clear hw4
  generalize w3.heap.size = g6 at *
  refine (rPlus_any L _ w4 HL.out HN.out HLI.out r1 r2 rok HR.out).mono ?_
  rintro e w5 ⟨rfl, hb⟩
  replace HB := Lib.hid (HB.out.trans (hb.mono HB.out.size))
  replace HV := Lib.hid (HV.out.keep hb)
  replace HL := Lib.hid (HL.out.keep hb)
  replace H6 := Lib.hid (H6.out.keep hb)
  clear hb
  go_upto_block 0 with (fail)
  refine Agg.wp_at fun w6 hw6 => ?_
  have hb : Below w5.heap.size w5 w6 := by rw [hw6.out]; repeat (first | exact Below.refl _ _ | refine Agg.bel_drew ?_ | refine Agg.bel_alloc ?_ _)
  replace HB := Lib.hid (HB.out.trans (hb.mono HB.out.size))
  replace HV := Lib.hid (HV.out.keep hb)
  replace HL := Lib.hid (HL.out.keep hb)
  replace H6 := Lib.hid (H6.out.keep hb)
  clear hb
  have H8 : Hid (Blk w6 w5.heap.size 31 [.int .i64 r1, .int .i64 r2]) := by show Blk _ _ _ _; rw [hw6.out]; exact Blk.new w5 31 #[.int .i64 r1, .int .i64 r2]
  clear hw6
  generalize w5.heap.size = g8 at *
  go_cut [] from 30 to 58 (fun wx => Below w.heap.size w wx ∧ Spans wx (.slice x0 l.length c0) l ∧ Spans wx (.slice xu L.length cu) L)
  case first =>
    have hAL := fun W hs => all_any L (.slice xu L.length cu) W hs
    have hT := HT.out
    generalize okAll L = ro at *
    have HAL := Lib.hid hAL
    clear hAL HT
    cases ro
    · obtain ⟨rfl, hpz⟩ : pe = 140 ∧ (p1, p2) = (0, 0) := by simpa [Told] using hT
      simp only [Prod.mk.injEq] at hpz
      obtain ⟨rfl, rfl⟩ := hpz
      clear hT
      go_wp2_with fail
      refine (HAL.out w6 HL.out).mono ?_
      rintro e w7 ⟨rfl, hb⟩
      replace HB := Lib.hid (HB.out.trans (hb.mono HB.out.size))
      replace HV := Lib.hid (HV.out.keep hb)
      replace HL := Lib.hid (HL.out.keep hb)
      replace H6 := Lib.hid (H6.out.keep hb)
      replace H8 := Lib.hid (H8.out.keep hb)
      clear hb
      go_upto_region 7 with (fail)
      refine Agg.listR 7 (by kernel_rfl) ?_
      simp only [List.take_succ_cons, List.take_zero, List.drop_succ_cons, List.drop_zero]
      refine Agg.chRowB 2 H6.out rfl (by decide +kernel) rfl rfl rfl rfl ?_
      refine Agg.chBuild (v := .agg #[.int .i64 0, .int .i64 0]) rfl rfl rfl rfl (fun _ => by kernel_rfl) ?_
      refine Agg.chBin (v := .bool false) rfl rfl rfl rfl rfl (fun w => flatSp.gd .neq _ _ _ _ w) (fun w => (by simpa using flatSp.neq (xs := [.int .i64 0, .int .i64 0]) (ys := [.int .i64 0, .int .i64 0]) (fitsSp (by decide) (by decide)) (fitsSp (by decide) (by decide)) true (by simp) w)) ?_
      refine Agg.chMove rfl rfl rfl rfl ?_
      refine Agg.chMove rfl rfl rfl rfl ?_
      refine Agg.chNe false (by decide) rfl rfl rfl rfl rfl ?_
      refine Agg.chPick rfl rfl rfl rfl rfl ?_
      refine Agg.chEnd ?_
      intro vs w8 hb _
      show Exit.then _ _ Exit.normal _ _
      simp only [List.reverse, List.reverseAux, Agg.fill, List.set_cons_succ, List.set_cons_zero]
      replace HB := Lib.hid (HB.out.trans (hb.mono HB.out.size))
      replace HV := Lib.hid (HV.out.keep hb)
      replace HL := Lib.hid (HL.out.keep hb)
      replace H6 := Lib.hid (H6.out.keep hb)
      replace H8 := Lib.hid (H8.out.keep hb)
      clear hb
      go_wp2_with fail
      go_meet
      exact ⟨HB.out, HV.out, HL.out⟩
    · cases rok
      · obtain ⟨rfl, hpz⟩ : pe = 5 ∧ (p1, p2) = (0, 0) := by simpa [Told] using hT
        simp only [Prod.mk.injEq] at hpz
        obtain ⟨rfl, rfl⟩ := hpz
        clear hT
        go_wp2_with fail
        refine (HAL.out w6 HL.out).mono ?_
        rintro e w9 ⟨rfl, hb⟩
        replace HB := Lib.hid (HB.out.trans (hb.mono HB.out.size))
        replace HV := Lib.hid (HV.out.keep hb)
        replace HL := Lib.hid (HL.out.keep hb)
        replace H6 := Lib.hid (H6.out.keep hb)
        replace H8 := Lib.hid (H8.out.keep hb)
        clear hb
        go_upto_region 10 with (fail)
        refine Agg.listR 7 (by kernel_rfl) ?_
        simp only [List.take_succ_cons, List.take_zero, List.drop_succ_cons, List.drop_zero]
        refine Agg.chRowB 2 H6.out rfl (by decide +kernel) rfl rfl rfl rfl ?_
        refine Agg.chBuild (v := .agg #[.int .i64 0, .int .i64 0]) rfl rfl rfl rfl (fun _ => by kernel_rfl) ?_
        refine Agg.chBin (v := .bool false) rfl rfl rfl rfl rfl (fun w => flatSp.gd .neq _ _ _ _ w) (fun w => (by simpa using flatSp.neq (xs := [.int .i64 0, .int .i64 0]) (ys := [.int .i64 0, .int .i64 0]) (fitsSp (by decide) (by decide)) (fitsSp (by decide) (by decide)) true (by simp) w)) ?_
        refine Agg.chMove rfl rfl rfl rfl ?_
        refine Agg.chMove rfl rfl rfl rfl ?_
        refine Agg.chNe false (by decide) rfl rfl rfl rfl rfl ?_
        refine Agg.chPick rfl rfl rfl rfl rfl ?_
        refine Agg.chEnd ?_
        intro vs w10 hb _
        show Exit.then _ _ Exit.normal _ _
        simp only [List.reverse, List.reverseAux, Agg.fill, List.set_cons_succ, List.set_cons_zero]
        replace HB := Lib.hid (HB.out.trans (hb.mono HB.out.size))
        replace HV := Lib.hid (HV.out.keep hb)
        replace HL := Lib.hid (HL.out.keep hb)
        replace H6 := Lib.hid (H6.out.keep hb)
        replace H8 := Lib.hid (H8.out.keep hb)
        clear hb
        go_wp2_with fail
        go_meet
        exact ⟨HB.out, HV.out, HL.out⟩
      · obtain ⟨rfl, hpz, hi1, hi2⟩ : pe = 0 ∧ (p1, p2) = (r1, r2) ∧ I64 r1 ∧ I64 r2 := by simpa [Told] using hT
        simp only [Prod.mk.injEq] at hpz
        obtain ⟨rfl, rfl⟩ := hpz
        clear hT
        have HI := Lib.hid (And.intro hi1 hi2)
        clear hi1 hi2
        go_wp2_with fail
        refine (HAL.out w6 HL.out).mono ?_
        rintro e w11 ⟨rfl, hb⟩
        replace HB := Lib.hid (HB.out.trans (hb.mono HB.out.size))
        replace HV := Lib.hid (HV.out.keep hb)
        replace HL := Lib.hid (HL.out.keep hb)
        replace H6 := Lib.hid (H6.out.keep hb)
        replace H8 := Lib.hid (H8.out.keep hb)
        clear hb
        go_upto_region 12 with (fail)
        refine Agg.listR 8 (by kernel_rfl) ?_
        simp only [List.take_succ_cons, List.take_zero, List.drop_succ_cons, List.drop_zero]
        refine Agg.chMove rfl rfl rfl rfl ?_
        refine Agg.chNe false (by decide) rfl rfl rfl rfl rfl ?_
        refine Agg.chMove rfl rfl rfl rfl ?_
        refine Agg.chRowB 2 H6.out rfl (by decide +kernel) rfl rfl rfl rfl ?_
        refine Agg.chRowB 2 H8.out rfl (by decide +kernel) rfl rfl rfl rfl ?_
        refine Agg.chBin (v := .bool false) rfl rfl rfl rfl rfl (fun w => flatSp.gd .neq _ _ _ _ w) (fun w => (by simpa using flatSp.neq (xs := [.int .i64 p1, .int .i64 p2]) (ys := [.int .i64 p1, .int .i64 p2]) (fitsSp HI.out.1 HI.out.2) (fitsSp HI.out.1 HI.out.2) true (by simp) w)) ?_
        refine Agg.chPick rfl rfl rfl rfl rfl ?_
        refine Agg.chAssign rfl rfl rfl rfl ?_
        refine Agg.chEnd ?_
        intro vs w12 hb _
        show Exit.then _ _ Exit.normal _ _
        simp only [List.reverse, List.reverseAux, Agg.fill, List.set_cons_succ, List.set_cons_zero]
        replace HB := Lib.hid (HB.out.trans (hb.mono HB.out.size))
        replace HV := Lib.hid (HV.out.keep hb)
        replace HL := Lib.hid (HL.out.keep hb)
        replace H6 := Lib.hid (H6.out.keep hb)
        replace H8 := Lib.hid (H8.out.keep hb)
        clear hb
        go_wp2_with fail
        go_meet
        exact ⟨HB.out, HV.out, HL.out⟩
  case rest =>
    obtain ⟨hb, hv, hl⟩ := hcut
    clear H6 H8
    replace HB := Lib.hid hb
    replace HV := Lib.hid hv
    replace HL := Lib.hid hl
    clear hb hv hl
    go_wp2_with fail
    go_loopw [61] (fun i wr => ∃ k : Nat, k ≤ L.length ∧ i = .int .i64 k ∧ Below w.heap.size w wr ∧ Spans wr (.slice x0 l.length c0) l ∧ Spans wr (.slice xu L.length cu) L) (fun i _ => L.length - (intOf i).toNat)
    case atStart => exact ⟨0, by omega, rfl, HB.out, HV.out, HL.out⟩
    case round =>
      obtain ⟨k, hk, rfl, hb, hv, hl⟩ := hrel
      replace HB := Lib.hid hb
      replace HV := Lib.hid hv
      replace HL := Lib.hid hl
      clear hb hv hl
      by_cases hlt : k < L.length
      · obtain ⟨b, o, rfl, c1, c2, _⟩ := HL.out.at hlt
        have HIK := Lib.hid (HLI.out L[k] (List.getElem_mem hlt))
        generalize L[k].1 = a1 at *
        generalize L[k].2 = a2 at *
        obtain ⟨⟨⟨q1, q2⟩, qe⟩, hq⟩ : ∃ r, timesR (a1, a2) n = r := ⟨_, rfl⟩
        obtain ⟨⟨⟨s1, s2⟩, sok⟩, hs⟩ : ∃ r, timesD a1 a2 n = r := ⟨_, rfl⟩
        obtain ⟨rt, hrt⟩ : ∃ r, decide (a1 ≤ a2) = r := ⟨_, rfl⟩
        have hTT := times_told a1 a2 n (q1, q2) (s1, s2) qe sok hq hs
        rw [hrt] at hTT
        have HTT := Lib.hid hTT
        have HQ := Lib.hid hq
        have HS := Lib.hid hs
        have HRT := Lib.hid hrt
        clear hTT hq hs hrt
        go_wp2_with fail
        refine Agg.calls_at fun w71 hw71 => ?_
        have hb : Below wr.heap.size wr w71 := by rw [hw71.out]; repeat (first | exact Below.refl _ _ | refine Agg.bel_drew ?_ | refine Agg.bel_alloc ?_ _)
        replace HB := Lib.hid (HB.out.trans (hb.mono HB.out.size))
        replace HV := Lib.hid (HV.out.keep hb)
        replace HL := Lib.hid (HL.out.keep hb)
        clear hb
        have H11 : Hid (Blk w71 wr.heap.size 31 [.int .i64 a1, .int .i64 a2]) := by show Blk _ _ _ _; rw [hw71.out]; exact Blk.new wr 31 #[.int .i64 a1, .int .i64 a2]
        clear hw71
        clear c1 c2
        generalize wr.heap.size = g11 at *
        refine (times_any a1 a2 n w71 HIK.out.1 HIK.out.2 HNN.out (q1, q2) qe HQ.out).mono ?_
        rintro e w72 ⟨rfl, hb⟩
        replace HB := Lib.hid (HB.out.trans (hb.mono HB.out.size))
        replace HV := Lib.hid (HV.out.keep hb)
        replace HL := Lib.hid (HL.out.keep hb)
        replace H11 := Lib.hid (H11.out.keep hb)
        clear hb
        have xH11_0 := H11.out.cell 0
        have xH11_1 := H11.out.cell 1
        have lH11 := H11.out.lt
        simp only [List.getElem?_cons_zero, List.getElem?_cons_succ] at xH11_0 xH11_1
        go_wp2_with fail
        refine Agg.calls_at fun w73 hw73 => ?_
        have hb : Below w72.heap.size w72 w73 := by rw [hw73.out]; repeat (first | exact Below.refl _ _ | refine Agg.bel_drew ?_ | refine Agg.bel_alloc ?_ _)
        replace HB := Lib.hid (HB.out.trans (hb.mono HB.out.size))
        replace HV := Lib.hid (HV.out.keep hb)
        replace HL := Lib.hid (HL.out.keep hb)
        replace H11 := Lib.hid (H11.out.keep hb)
        clear hb
        clear xH11_0 xH11_1 lH11
        have H12 : Hid (Blk w73 w72.heap.size 31 [.int .i64 q1, .int .i64 q2]) := by show Blk _ _ _ _; rw [hw73.out]; exact Blk.new w72 31 #[.int .i64 q1, .int .i64 q2]
        clear hw73
        generalize w72.heap.size = g12 at *
        refine (rTimes_any a1 a2 n HIK.out.1.1 HIK.out.1.2 HIK.out.2.1 HIK.out.2.2 HNN.out.1 HNN.out.2 w73 s1 s2 sok HS.out).mono ?_
        rintro e w74 ⟨rfl, hb⟩
        replace HB := Lib.hid (HB.out.trans (hb.mono HB.out.size))
        replace HV := Lib.hid (HV.out.keep hb)
        replace HL := Lib.hid (HL.out.keep hb)
        replace H11 := Lib.hid (H11.out.keep hb)
        replace H12 := Lib.hid (H12.out.keep hb)
        clear hb
        have xH11_0 := H11.out.cell 0
        have xH11_1 := H11.out.cell 1
        have lH11 := H11.out.lt
        simp only [List.getElem?_cons_zero, List.getElem?_cons_succ] at xH11_0 xH11_1
        go_wp2_with fail
        refine Agg.calls_at fun w75 hw75 => ?_
        have hb : Below w74.heap.size w74 w75 := by rw [hw75.out]; repeat (first | exact Below.refl _ _ | refine Agg.bel_drew ?_ | refine Agg.bel_alloc ?_ _)
        replace HB := Lib.hid (HB.out.trans (hb.mono HB.out.size))
        replace HV := Lib.hid (HV.out.keep hb)
        replace HL := Lib.hid (HL.out.keep hb)
        replace H11 := Lib.hid (H11.out.keep hb)
        replace H12 := Lib.hid (H12.out.keep hb)
        clear hb
        clear xH11_0 xH11_1 lH11
        have H14 : Hid (Blk w75 w74.heap.size 31 [.int .i64 s1, .int .i64 s2]) := by show Blk _ _ _ _; rw [hw75.out]; exact Blk.new w74 31 #[.int .i64 s1, .int .i64 s2]
        clear hw75
        generalize w74.heap.size = g14 at *
        have xH11_0 := H11.out.cell 0
        have xH11_1 := H11.out.cell 1
        have lH11 := H11.out.lt
        simp only [List.getElem?_cons_zero, List.getElem?_cons_succ] at xH11_0 xH11_1
        go_wp2_with fail
        clear xH11_0 xH11_1 lH11
        refine (right_any a1 a2 w75 rt HRT.out).mono ?_
        rintro e w76 ⟨rfl, hb⟩
        replace HB := Lib.hid (HB.out.trans (hb.mono HB.out.size))
        replace HV := Lib.hid (HV.out.keep hb)
        replace HL := Lib.hid (HL.out.keep hb)
        replace H11 := Lib.hid (H11.out.keep hb)
        replace H12 := Lib.hid (H12.out.keep hb)
        replace H14 := Lib.hid (H14.out.keep hb)
        clear hb
        have hT := HTT.out
        clear HTT HQ HS HRT H11
        cases rt
        · obtain ⟨rfl, hpz⟩ : qe = 140 ∧ (q1, q2) = (0, 0) := by simpa [Told] using hT
          simp only [Prod.mk.injEq] at hpz
          obtain ⟨rfl, rfl⟩ := hpz
          clear hT
          go_upto_region 20 with (fail)
          refine Agg.listR 7 (by kernel_rfl) ?_
          simp only [List.take_succ_cons, List.take_zero, List.drop_succ_cons, List.drop_zero]
          refine Agg.chRowB 2 H12.out rfl (by decide +kernel) rfl rfl rfl rfl ?_
          refine Agg.chBuild (v := .agg #[.int .i64 0, .int .i64 0]) rfl rfl rfl rfl (fun _ => by kernel_rfl) ?_
          refine Agg.chBin (v := .bool false) rfl rfl rfl rfl rfl (fun w => flatSp.gd .neq _ _ _ _ w) (fun w => (by simpa using flatSp.neq (xs := [.int .i64 0, .int .i64 0]) (ys := [.int .i64 0, .int .i64 0]) (fitsSp (by decide) (by decide)) (fitsSp (by decide) (by decide)) true (by simp) w)) ?_
          refine Agg.chMove rfl rfl rfl rfl ?_
          refine Agg.chMove rfl rfl rfl rfl ?_
          refine Agg.chNe false (by decide) rfl rfl rfl rfl rfl ?_
          refine Agg.chPick rfl rfl rfl rfl rfl ?_
          refine Agg.chEnd ?_
          intro vs w77 hb _
          show Exit.then _ _ Exit.normal _ _
          simp only [List.reverse, List.reverseAux, Agg.fill, List.set_cons_succ, List.set_cons_zero]
          replace HB := Lib.hid (HB.out.trans (hb.mono HB.out.size))
          replace HV := Lib.hid (HV.out.keep hb)
          replace HL := Lib.hid (HL.out.keep hb)
          replace H12 := Lib.hid (H12.out.keep hb)
          replace H14 := Lib.hid (H14.out.keep hb)
          clear hb
          go_wp2_with fail
          go_roundw
          case rel => exact ⟨k + 1, by omega, by go_num, HB.out, HV.out, HL.out⟩
          case measure => simp [intOf]; omega
        · cases sok
          · obtain ⟨rfl, hpz⟩ : qe = 5 ∧ (q1, q2) = (0, 0) := by simpa [Told] using hT
            simp only [Prod.mk.injEq] at hpz
            obtain ⟨rfl, rfl⟩ := hpz
            clear hT
            go_upto_region 23 with (fail)
            refine Agg.listR 7 (by kernel_rfl) ?_
            simp only [List.take_succ_cons, List.take_zero, List.drop_succ_cons, List.drop_zero]
            refine Agg.chRowB 2 H12.out rfl (by decide +kernel) rfl rfl rfl rfl ?_
            refine Agg.chBuild (v := .agg #[.int .i64 0, .int .i64 0]) rfl rfl rfl rfl (fun _ => by kernel_rfl) ?_
            refine Agg.chBin (v := .bool false) rfl rfl rfl rfl rfl (fun w => flatSp.gd .neq _ _ _ _ w) (fun w => (by simpa using flatSp.neq (xs := [.int .i64 0, .int .i64 0]) (ys := [.int .i64 0, .int .i64 0]) (fitsSp (by decide) (by decide)) (fitsSp (by decide) (by decide)) true (by simp) w)) ?_
            refine Agg.chMove rfl rfl rfl rfl ?_
            refine Agg.chMove rfl rfl rfl rfl ?_
            refine Agg.chNe false (by decide) rfl rfl rfl rfl rfl ?_
            refine Agg.chPick rfl rfl rfl rfl rfl ?_
            refine Agg.chEnd ?_
            intro vs w78 hb _
            show Exit.then _ _ Exit.normal _ _
            simp only [List.reverse, List.reverseAux, Agg.fill, List.set_cons_succ, List.set_cons_zero]
            replace HB := Lib.hid (HB.out.trans (hb.mono HB.out.size))
            replace HV := Lib.hid (HV.out.keep hb)
            replace HL := Lib.hid (HL.out.keep hb)
            replace H12 := Lib.hid (H12.out.keep hb)
            replace H14 := Lib.hid (H14.out.keep hb)
            clear hb
            go_wp2_with fail
            go_roundw
            case rel => exact ⟨k + 1, by omega, by go_num, HB.out, HV.out, HL.out⟩
            case measure => simp [intOf]; omega
          · obtain ⟨rfl, hpz, hi1, hi2⟩ : qe = 0 ∧ (q1, q2) = (s1, s2) ∧ I64 s1 ∧ I64 s2 := by simpa [Told] using hT
            simp only [Prod.mk.injEq] at hpz
            obtain ⟨rfl, rfl⟩ := hpz
            clear hT
            have HI := Lib.hid (And.intro hi1 hi2)
            clear hi1 hi2
            go_upto_region 25 with (fail)
            refine Agg.listR 8 (by kernel_rfl) ?_
            simp only [List.take_succ_cons, List.take_zero, List.drop_succ_cons, List.drop_zero]
            refine Agg.chMove rfl rfl rfl rfl ?_
            refine Agg.chNe false (by decide) rfl rfl rfl rfl rfl ?_
            refine Agg.chMove rfl rfl rfl rfl ?_
            refine Agg.chRowB 2 H12.out rfl (by decide +kernel) rfl rfl rfl rfl ?_
            refine Agg.chRowB 2 H14.out rfl (by decide +kernel) rfl rfl rfl rfl ?_
            refine Agg.chBin (v := .bool false) rfl rfl rfl rfl rfl (fun w => flatSp.gd .neq _ _ _ _ w) (fun w => (by simpa using flatSp.neq (xs := [.int .i64 q1, .int .i64 q2]) (ys := [.int .i64 q1, .int .i64 q2]) (fitsSp HI.out.1 HI.out.2) (fitsSp HI.out.1 HI.out.2) true (by simp) w)) ?_
            refine Agg.chPick rfl rfl rfl rfl rfl ?_
            refine Agg.chAssign rfl rfl rfl rfl ?_
            refine Agg.chEnd ?_
            intro vs w79 hb _
            show Exit.then _ _ Exit.normal _ _
            simp only [List.reverse, List.reverseAux, Agg.fill, List.set_cons_succ, List.set_cons_zero]
            replace HB := Lib.hid (HB.out.trans (hb.mono HB.out.size))
            replace HV := Lib.hid (HV.out.keep hb)
            replace HL := Lib.hid (HL.out.keep hb)
            replace H12 := Lib.hid (H12.out.keep hb)
            replace H14 := Lib.hid (H14.out.keep hb)
            clear hb
            go_wp2_with fail
            go_roundw
            case rel => exact ⟨k + 1, by omega, by go_num, HB.out, HV.out, HL.out⟩
            case measure => simp [intOf]; omega
      · obtain rfl : k = L.length := by omega
        go_wp2_with fail
        refine (few_any l _ wr HV.out).mono ?_
        rintro e w80 ⟨u2, rfl, hu2, hb⟩
        replace HB := Lib.hid (HB.out.trans (hb.mono HB.out.size))
        replace HV := Lib.hid (HV.out.keep hb)
        replace HL := Lib.hid (HL.out.keep hb)
        clear hb
        rw [← HLL.out] at hu2
        go_wp2_with fail
        refine (equalS_any L _ _ w80 HL.out hu2 HLI.out).mono ?_
        rintro e w81 ⟨rfl, hb⟩
        replace HB := Lib.hid (HB.out.trans (hb.mono HB.out.size))
        replace HV := Lib.hid (HV.out.keep hb)
        replace HL := Lib.hid (HL.out.keep hb)
        clear hb
        go_wp2_with fail
        go_ret
        exact ⟨rfl, HB.out⟩
theorem SpanSums_walk (v : Value) (f0 : Nat) (n : Int) (w : World) (h0 : Agg.Good Try.prog w f0 24 [v]) (h1 : (Lit.int .i64 n).wf = true) :
    Calls Try.prog 10 #[v, .int .i64 n] w fun e w' => e = .returned (.bool true) ∧ Below w.heap.size w w' := by
  obtain ⟨l, hl, hg⟩ := good_spans h0
  exact sums_any l v n w hl hg (i64_wf h1)
end Go.Proofs.Ytcedalenjcbnmaa
