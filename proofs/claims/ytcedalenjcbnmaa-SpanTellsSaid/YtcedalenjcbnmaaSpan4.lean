/-
  THE WALKS OF LAYER 4 (span), fourth part: Join, Meet, Least, Most, Within, Width, Middle.
-/
import Derived.Test.YtcedalenjcbnmaaSpan3
import Derived.Test.YtcedalenjcbnmaaChain2
namespace Go.Proofs.Ytcedalenjcbnmaa
open Go.ChangeShapes Go.WideShapes Go.ChangeAt Go.RowKit Agg

theorem fo_Span_0 : Agg.fieldOff Try.prog 31 0 = some 0 := by kernel_rfl
theorem fo_Span_1 : Agg.fieldOff Try.prog 31 1 = some 1 := by kernel_rfl
theorem Least_any (l : List Sp) (v : Value) (w : World) (hv : Spans w v l) (hn : l.length ≤ 1000) (r : Sp) (er : Int) (hr : tog leastF l = (r, er)) :
    Calls Try.prog 19 #[v] w fun e w' => e = .returned (.tuple #[.agg #[.int .i64 r.1, .int .i64 r.2], .int .i64 er]) ∧ Below w.heap.size w w' := by
  obtain ⟨x, cap, rfl, _, _⟩ := hv.shape
  have HV := Lib.hid hv
  have HR := Lib.hid hr
  have HN := Lib.hid hn
  clear hv hr hn
  have HB := Lib.hid (Below.refl w.heap.size w)
  go_enter Try.func19, Try.ntmps19
  go_wp2_with fail
  refine Agg.calls_at fun w1 hw1 => ?_
  have hb : Below w.heap.size w w1 := by rw [hw1.out]; repeat (first | exact Below.refl _ _ | refine Agg.bel_drew ?_ | refine Agg.bel_alloc ?_ _)
  replace HB := Lib.hid (HB.out.trans (hb.mono HB.out.size))
  replace HV := Lib.hid (HV.out.keep hb)
  clear hb
  have HG : Hid (Blk w1 w.heap.size 31 [.int .i64 0, .int .i64 0]) := by show Blk _ _ _ _; rw [hw1.out]; exact Blk.new w 31 #[.int .i64 0, .int .i64 0]
  clear hw1
  refine (together_leastF l _ w1 HV.out HN.out r er HR.out).mono ?_
  rintro e w2 ⟨rfl, hb⟩
  replace HB := Lib.hid (HB.out.trans (hb.mono HB.out.size))
  replace HV := Lib.hid (HV.out.keep hb)
  replace HG := Lib.hid (HG.out.keep hb)
  clear hb
  have e0 := HG.out.cell 0
  have e1 := HG.out.cell 1
  have f0 := HG.out.frozen 0
  have f1 := HG.out.frozen 1
  have hlt := HG.out.lt
  simp only [List.getElem?_cons_zero, List.getElem?_cons_succ] at e0 e1
  go_wp2_with fail
  exact bodyPost_ret (v := .tuple #[.agg #[.int .i64 r.1, .int .i64 r.2], .int .i64 er]) (by simp [results, Try.results19, go_sem, e0, e1]) rfl ⟨rfl, (HB.out.setCell (Nat.le_refl _) _).setCell (Nat.le_refl _) _⟩
theorem Most_any (l : List Sp) (v : Value) (w : World) (hv : Spans w v l) (hn : l.length ≤ 1000) (r : Sp) (er : Int) (hr : tog mostF l = (r, er)) :
    Calls Try.prog 20 #[v] w fun e w' => e = .returned (.tuple #[.agg #[.int .i64 r.1, .int .i64 r.2], .int .i64 er]) ∧ Below w.heap.size w w' := by
  obtain ⟨x, cap, rfl, _, _⟩ := hv.shape
  have HV := Lib.hid hv
  have HR := Lib.hid hr
  have HN := Lib.hid hn
  clear hv hr hn
  have HB := Lib.hid (Below.refl w.heap.size w)
  go_enter Try.func20, Try.ntmps20
  go_wp2_with fail
  refine Agg.calls_at fun w1 hw1 => ?_
  have hb : Below w.heap.size w w1 := by rw [hw1.out]; repeat (first | exact Below.refl _ _ | refine Agg.bel_drew ?_ | refine Agg.bel_alloc ?_ _)
  replace HB := Lib.hid (HB.out.trans (hb.mono HB.out.size))
  replace HV := Lib.hid (HV.out.keep hb)
  clear hb
  have HG : Hid (Blk w1 w.heap.size 31 [.int .i64 0, .int .i64 0]) := by show Blk _ _ _ _; rw [hw1.out]; exact Blk.new w 31 #[.int .i64 0, .int .i64 0]
  clear hw1
  refine (together_mostF l _ w1 HV.out HN.out r er HR.out).mono ?_
  rintro e w2 ⟨rfl, hb⟩
  replace HB := Lib.hid (HB.out.trans (hb.mono HB.out.size))
  replace HV := Lib.hid (HV.out.keep hb)
  replace HG := Lib.hid (HG.out.keep hb)
  clear hb
  have e0 := HG.out.cell 0
  have e1 := HG.out.cell 1
  have f0 := HG.out.frozen 0
  have f1 := HG.out.frozen 1
  have hlt := HG.out.lt
  simp only [List.getElem?_cons_zero, List.getElem?_cons_succ] at e0 e1
  go_wp2_with fail
  exact bodyPost_ret (v := .tuple #[.agg #[.int .i64 r.1, .int .i64 r.2], .int .i64 er]) (by simp [results, Try.results20, go_sem, e0, e1]) rfl ⟨rfl, (HB.out.setCell (Nat.le_refl _) _).setCell (Nat.le_refl _) _⟩
theorem Join_any (l : List Sp) (v : Value) (w : World) (hv : Spans w v l) (hn : l.length ≤ 1000) (r : Sp) (er : Int) (hr : tog joinF l = (r, er)) :
    Calls Try.prog 21 #[v] w fun e w' => e = .returned (.tuple #[.agg #[.int .i64 r.1, .int .i64 r.2], .int .i64 er]) ∧ Below w.heap.size w w' := by
  obtain ⟨x, cap, rfl, _, _⟩ := hv.shape
  have HV := Lib.hid hv
  have HR := Lib.hid hr
  have HN := Lib.hid hn
  clear hv hr hn
  have HB := Lib.hid (Below.refl w.heap.size w)
  go_enter Try.func21, Try.ntmps21
  go_wp2_with fail
  refine Agg.calls_at fun w1 hw1 => ?_
  have hb : Below w.heap.size w w1 := by rw [hw1.out]; repeat (first | exact Below.refl _ _ | refine Agg.bel_drew ?_ | refine Agg.bel_alloc ?_ _)
  replace HB := Lib.hid (HB.out.trans (hb.mono HB.out.size))
  replace HV := Lib.hid (HV.out.keep hb)
  clear hb
  have HG : Hid (Blk w1 w.heap.size 31 [.int .i64 0, .int .i64 0]) := by show Blk _ _ _ _; rw [hw1.out]; exact Blk.new w 31 #[.int .i64 0, .int .i64 0]
  clear hw1
  refine (together_joinF l _ w1 HV.out HN.out r er HR.out).mono ?_
  rintro e w2 ⟨rfl, hb⟩
  replace HB := Lib.hid (HB.out.trans (hb.mono HB.out.size))
  replace HV := Lib.hid (HV.out.keep hb)
  replace HG := Lib.hid (HG.out.keep hb)
  clear hb
  have e0 := HG.out.cell 0
  have e1 := HG.out.cell 1
  have f0 := HG.out.frozen 0
  have f1 := HG.out.frozen 1
  have hlt := HG.out.lt
  simp only [List.getElem?_cons_zero, List.getElem?_cons_succ] at e0 e1
  go_wp2_with fail
  exact bodyPost_ret (v := .tuple #[.agg #[.int .i64 r.1, .int .i64 r.2], .int .i64 er]) (by simp [results, Try.results21, go_sem, e0, e1]) rfl ⟨rfl, (HB.out.setCell (Nat.le_refl _) _).setCell (Nat.le_refl _) _⟩
theorem Meet_any (l : List Sp) (v : Value) (w : World) (hv : Spans w v l) (hn : l.length ≤ 1000) (r : Sp) (er : Int) (hr : tog meetF l = (r, er)) :
    Calls Try.prog 23 #[v] w fun e w' => e = .returned (.tuple #[.agg #[.int .i64 r.1, .int .i64 r.2], .int .i64 er]) ∧ Below w.heap.size w w' := by
  obtain ⟨x, cap, rfl, _, _⟩ := hv.shape
  have HV := Lib.hid hv
  have HR := Lib.hid hr
  have HN := Lib.hid hn
  clear hv hr hn
  have HB := Lib.hid (Below.refl w.heap.size w)
  go_enter Try.func23, Try.ntmps23
  go_wp2_with fail
  refine Agg.calls_at fun w1 hw1 => ?_
  have hb : Below w.heap.size w w1 := by rw [hw1.out]; repeat (first | exact Below.refl _ _ | refine Agg.bel_drew ?_ | refine Agg.bel_alloc ?_ _)
  replace HB := Lib.hid (HB.out.trans (hb.mono HB.out.size))
  replace HV := Lib.hid (HV.out.keep hb)
  clear hb
  have HG : Hid (Blk w1 w.heap.size 31 [.int .i64 0, .int .i64 0]) := by show Blk _ _ _ _; rw [hw1.out]; exact Blk.new w 31 #[.int .i64 0, .int .i64 0]
  clear hw1
  refine (together_meetF l _ w1 HV.out HN.out r er HR.out).mono ?_
  rintro e w2 ⟨rfl, hb⟩
  replace HB := Lib.hid (HB.out.trans (hb.mono HB.out.size))
  replace HV := Lib.hid (HV.out.keep hb)
  replace HG := Lib.hid (HG.out.keep hb)
  clear hb
  have e0 := HG.out.cell 0
  have e1 := HG.out.cell 1
  have f0 := HG.out.frozen 0
  have f1 := HG.out.frozen 1
  have hlt := HG.out.lt
  simp only [List.getElem?_cons_zero, List.getElem?_cons_succ] at e0 e1
  go_wp2_with fail
  exact bodyPost_ret (v := .tuple #[.agg #[.int .i64 r.1, .int .i64 r.2], .int .i64 er]) (by simp [results, Try.results23, go_sem, e0, e1]) rfl ⟨rfl, (HB.out.setCell (Nat.le_refl _) _).setCell (Nat.le_refl _) _⟩
theorem spans_two (w : World) (a b c d : Int) (g : Nat) (hg : g = w.heap.size) : Spans (w.alloc (.cells #[.int .i64 a, .int .i64 b, .int .i64 c, .int .i64 d] 31)) (.slice (some ⟨g, 0, none⟩) 2 2) [(a, b), (c, d)] :=
  sl_newAt' w #[.int .i64 a, .int .i64 b, .int .i64 c, .int .i64 d] _ 2 2 rfl (by decide) g hg
theorem spans_one (w : World) (a b : Int) (g : Nat) (hg : g = w.heap.size) : Spans (w.alloc (.cells #[.int .i64 a, .int .i64 b] 31)) (.slice (some ⟨g, 0, none⟩) 1 1) [(a, b)] :=
  sl_newAt' w #[.int .i64 a, .int .i64 b] _ 1 2 rfl (by decide) g hg
def withinB (a b : Sp) : Bool := decide (a.1 ≤ a.2) && decide (b.1 ≤ b.2) && decide (b.1 ≤ a.1) && decide (a.2 ≤ b.2)
set_option maxHeartbeats 400000 in
theorem within_any (a b c d : Int) (w : World) (q : Bool) (hq : withinB (a, b) (c, d) = q) :
    Calls Try.prog 22 #[.agg #[.int .i64 a, .int .i64 b], .agg #[.int .i64 c, .int .i64 d]] w fun e w' => e = .returned (.bool q) ∧ Below w.heap.size w w' := by
  obtain ⟨r, er, hr⟩ : ∃ r er, tog joinF [(a, b), (c, d)] = (r, er) := ⟨_, _, rfl⟩
  have hcase : (er = 0 ∧ (r.1 == c && r.2 == d) = q) ∨ ((er == 0) = false ∧ q = false) := by
    have hf : foldF joinF [(a, b), (c, d)] = (min a c, max b d) := rfl
    unfold tog okAll at hr
    unfold withinB at hq
    simp only [List.all_cons, List.all_nil, Bool.and_true, Bool.and_eq_true, decide_eq_true_eq, hf] at hr hq
    by_cases h1 : a ≤ b ∧ c ≤ d
    · left
      rw [if_pos h1, if_neg (by simp), if_pos (by omega)] at hr
      simp only [Prod.mk.injEq] at hr
      obtain ⟨rfl, rfl⟩ := hr
      refine ⟨rfl, ?_⟩
      rw [← hq]
      simp only [h1.1, h1.2, decide_true, Bool.true_and]
      rw [Bool.eq_iff_iff]
      simp only [Bool.and_eq_true, beq_iff_eq, decide_eq_true_eq]
      omega
    · right
      rw [if_neg h1] at hr
      simp only [Prod.mk.injEq] at hr
      obtain ⟨rfl, rfl⟩ := hr
      refine ⟨rfl, ?_⟩
      rw [← hq]
      simp only [Bool.and_eq_false_iff, decide_eq_false_iff_not]
      omega
  have HR := Lib.hid hr
  have HC := Lib.hid hcase
  clear hr hq hcase
  have HB := Lib.hid (Below.refl w.heap.size w)
  go_enter Try.func22, Try.ntmps22
  go_wp2_with fail
  have hsp := fun W g hg => spans_two W a b c d g hg
  have HS := Lib.hid hsp
  clear hsp
  refine Agg.calls_at fun w1 hw1 => ?_
  have HT : Hid (Blk w1 (w.heap.size + 1) 31 [.int .i64 c, .int .i64 d]) := by
    show Blk _ _ _ _; rw [hw1.out]; exact ((Blk.newAt (w.alloc _) 31 #[.int .i64 c, .int .i64 d] _ (by simp)).al _)
  have HV : Hid (Spans w1 (.slice (some ⟨w.heap.size + 1 + 1, 0, none⟩) 2 2) [(a, b), (c, d)]) := by
    show Spans _ _ _; rw [hw1.out]; exact HS.out ((w.alloc _).alloc _) _ (by simp)
  replace HB : Hid (Below w.heap.size w w1) := by show Below _ _ _; rw [hw1.out]; exact bel_alloc (bel_alloc (bel_alloc HB.out _) _) _
  clear hw1 HS
  refine (Join_any [(a, b), (c, d)] _ w1 HV.out (by simp) r er HR.out).mono ?_
  rintro e w2 ⟨rfl, hb⟩
  replace HB := Lib.hid (HB.out.trans (hb.mono HB.out.size))
  replace HT := Lib.hid (HT.out.keep hb)
  clear hb
  have d0 := HT.out.cell 0
  have d1 := HT.out.cell 1
  have hlt := HT.out.lt
  simp only [List.getElem?_cons_zero, List.getElem?_cons_succ] at d0 d1
  rcases HC.out with ⟨rfl, h2⟩ | ⟨h1, rfl⟩
  · have H2 := Lib.hid h2
    clear h2 HC
    go_wp2_with fail
    all_goals
      go_ret
      exact ⟨by rw [← H2.out]; simp [*], bel_alloc HB.out _⟩
  · go_wp2_with fail
    go_ret
    exact ⟨rfl, by first | exact bel_alloc HB.out _ | exact HB.out⟩
def I64 (z : Int) : Prop := -9223372036854775808 ≤ z ∧ z ≤ 9223372036854775807
def widthI (s : Sp) : Int := if s.2 < s.1 then 0 else s.2 - s.1
theorem width_any (a b : Int) (w : World) (ha : I64 a) (hb : I64 b) :
    Calls Try.prog 17 #[.agg #[.int .i64 a, .int .i64 b]] w fun e w' => e = .returned (.int .u64 (widthI (a, b))) ∧ Below w.heap.size w w' := by
  have hkey : ¬ b < a → IntKind.u64.wrap (IntKind.u64.wrap b - IntKind.u64.wrap a) = widthI (a, b) := by
    intro h
    unfold I64 at ha hb
    rw [widthI, if_neg h]
    simp [IntKind.wrap, IntKind.bits, IntKind.signed]; omega
  clear ha hb
  have HK := Lib.hid hkey
  clear hkey
  by_cases h : b < a
  all_goals
    first
      | have HC : Hid (ckE (a, b) = 140) := if_pos h
      | have HC : Hid (ckE (a, b) = 0) := if_neg h
    have HE := Lib.hid h
    clear h
    have HB := Lib.hid (Below.refl w.heap.size w)
    go_enter Try.func17, Try.ntmps17
    go_wp2_with fail
    refine Agg.calls_at fun w1 hw1 => ?_
    have hb : Below w.heap.size w w1 := by rw [hw1.out]; repeat (first | exact Below.refl _ _ | refine Agg.bel_drew ?_ | refine Agg.bel_alloc ?_ _)
    replace HB := Lib.hid (HB.out.trans (hb.mono HB.out.size))
    clear hb
    have HT : Hid (Blk w1 w.heap.size 31 [.int .i64 a, .int .i64 b]) := by show Blk _ _ _ _; rw [hw1.out]; exact Blk.new w 31 #[.int .i64 a, .int .i64 b]
    clear hw1
    refine (check_any _ _ w1).mono ?_
    rintro e w2 ⟨rfl, hb⟩
    replace HB := Lib.hid (HB.out.trans (hb.mono HB.out.size))
    replace HT := Lib.hid (HT.out.keep hb)
    clear hb
    rw [HC.out]
    have d0 := HT.out.cell 0
    have d1 := HT.out.cell 1
    simp only [List.getElem?_cons_zero, List.getElem?_cons_succ] at d0 d1
    go_wp2_with fail
    go_ret
    refine ⟨?_, HB.out⟩
    first
      | (rw [← HK.out HE.out]; rfl)
      | (rw [widthI, if_pos HE.out]; rfl)
def midI (s : Sp) : Int := s.1 + (s.2 - s.1) / 2
theorem middle_any (a b : Int) (w : World) (ha : I64 a) (hb : I64 b) (m er : Int) (hm : (if b < a then ((0 : Int), (140 : Int)) else (midI (a, b), 0)) = (m, er)) :
    Calls Try.prog 30 #[.agg #[.int .i64 a, .int .i64 b]] w fun e w' => e = .returned (.tuple #[.int .i64 m, .int .i64 er]) ∧ Below w.heap.size w w' := by
  have HA := Lib.hid ha
  have HBB := Lib.hid hb
  by_cases h : b < a
  · have HC : Hid (ckE (a, b) = 140) := if_pos h
    rw [if_pos h] at hm
    simp only [Prod.mk.injEq] at hm
    obtain ⟨rfl, rfl⟩ := hm
    clear ha hb h
    have HB := Lib.hid (Below.refl w.heap.size w)
    go_enter Try.func30, Try.ntmps30
    go_wp2_with fail
    refine Agg.calls_at fun w1 hw1 => ?_
    have hb : Below w.heap.size w w1 := by rw [hw1.out]; repeat (first | exact Below.refl _ _ | refine Agg.bel_drew ?_ | refine Agg.bel_alloc ?_ _)
    replace HB := Lib.hid (HB.out.trans (hb.mono HB.out.size))
    clear hb
    refine (check_any _ _ w1).mono ?_
    rintro e w2 ⟨rfl, hb⟩
    replace HB := Lib.hid (HB.out.trans (hb.mono HB.out.size))
    clear hb
    rw [HC.out]
    go_wp2_with fail
    go_ret2
    exact ⟨rfl, HB.out⟩
  · have HC : Hid (ckE (a, b) = 0) := if_neg h
    rw [if_neg h] at hm
    simp only [Prod.mk.injEq] at hm
    obtain ⟨rfl, rfl⟩ := hm
    have hw : Hid (widthI (a, b) = b - a) := if_neg h
    have hk : IntKind.i64.wrap (IntKind.u64.wrap (IntKind.u64.wrap a + (b - a) / 2)) = midI (a, b) := by
      unfold I64 at ha hb
      unfold midI
      simp [IntKind.wrap, IntKind.bits, IntKind.signed]; omega
    have HK := Lib.hid hk
    have HQ : Hid (IntKind.u64.wrap ((b - a).tdiv 2) = (b - a) / 2) := by
      show _ = _
      rw [Int.tdiv_eq_ediv_of_nonneg (by omega)]
      unfold I64 at ha hb
      simp [IntKind.wrap, IntKind.bits, IntKind.signed]; omega
    have h0 : 0 ≤ b - a := by omega
    clear ha hb h hk
    have HB := Lib.hid (Below.refl w.heap.size w)
    go_enter Try.func30, Try.ntmps30
    go_wp2_with fail
    refine Agg.calls_at fun w1 hw1 => ?_
    have hb : Below w.heap.size w w1 := by rw [hw1.out]; repeat (first | exact Below.refl _ _ | refine Agg.bel_drew ?_ | refine Agg.bel_alloc ?_ _)
    replace HB := Lib.hid (HB.out.trans (hb.mono HB.out.size))
    clear hb
    have HT : Hid (Blk w1 w.heap.size 31 [.int .i64 a, .int .i64 b]) := by show Blk _ _ _ _; rw [hw1.out]; exact Blk.new w 31 #[.int .i64 a, .int .i64 b]
    clear hw1
    refine (check_any _ _ w1).mono ?_
    rintro e w2 ⟨rfl, hb⟩
    replace HB := Lib.hid (HB.out.trans (hb.mono HB.out.size))
    replace HT := Lib.hid (HT.out.keep hb)
    clear hb
    rw [HC.out]
    have d0 := HT.out.cell 0
    have d1 := HT.out.cell 1
    simp only [List.getElem?_cons_zero, List.getElem?_cons_succ] at d0 d1
    go_wp2_with fail
    refine Agg.chainR 10 (by kernel_rfl) (by kernel_rfl) ?_
    simp only [List.take_succ_cons, List.take_zero, List.drop_succ_cons, List.drop_zero]
    repeat (first | refine Agg.chMove rfl rfl rfl rfl ?_ | refine Agg.chAssign rfl rfl rfl rfl ?_ | refine Agg.chExtract rfl rfl rfl rfl rfl ?_ | refine Agg.chFA fo_Span_0 rfl rfl rfl rfl ?_ | refine Agg.chFA fo_Span_1 rfl rfl rfl rfl ?_ | refine Agg.chLoadB HT.out (by decide +kernel) rfl rfl (by rfl) rfl rfl ?_ | refine Agg.chRowB 2 HT.out rfl (by decide +kernel) rfl rfl rfl rfl ?_ | refine Agg.chNot rfl rfl rfl rfl ?_ | refine Agg.chPick rfl rfl rfl rfl rfl ?_ | refine Agg.chSkip rfl rfl ?_ | refine Agg.chEq true (by first | assumption | decide | (simp; omega)) rfl rfl rfl rfl rfl ?_ | refine Agg.chEq false (by first | assumption | decide | (simp; omega)) rfl rfl rfl rfl rfl ?_ | refine Agg.chNe true (by first | assumption | decide | (simp; omega)) rfl rfl rfl rfl rfl ?_ | refine Agg.chNe false (by first | assumption | decide | (simp; omega)) rfl rfl rfl rfl rfl ?_ | refine Agg.chLt true (by first | assumption | decide | (simp; omega)) rfl rfl rfl rfl rfl ?_ | refine Agg.chLt false (by first | assumption | decide | (simp; omega)) rfl rfl rfl rfl rfl ?_ | refine Agg.chLe true (by first | assumption | decide | (simp; omega)) rfl rfl rfl rfl rfl ?_ | refine Agg.chLe false (by first | assumption | decide | (simp; omega)) rfl rfl rfl rfl rfl ?_ | refine Agg.chGt true (by first | assumption | decide | (simp; omega)) rfl rfl rfl rfl rfl ?_ | refine Agg.chGt false (by first | assumption | decide | (simp; omega)) rfl rfl rfl rfl rfl ?_ | refine Agg.chGe true (by first | assumption | decide | (simp; omega)) rfl rfl rfl rfl rfl ?_ | refine Agg.chGe false (by first | assumption | decide | (simp; omega)) rfl rfl rfl rfl rfl ?_ | refine Agg.chAr64 rfl rfl rfl rfl (by omega) (by omega) rfl rfl ?_ | refine Agg.chInt _ rfl (by kernel_rfl) Try.underlying28 rfl rfl rfl rfl ?_ | refine Agg.chInt _ rfl (by kernel_rfl) Try.underlying2 rfl rfl rfl rfl ?_)
    refine Agg.chCall (v := .int .u64 (widthI (a, b))) Try.func17 rfl (by kernel_rfl) rfl rfl rfl rfl (fun W _ => width_any a b W HA.out HBB.out) ?_
    rw [hw.out]
    refine Agg.chQuo ((b - a) / 2) rfl rfl rfl (by decide) HQ.out rfl rfl ?_
    refine Agg.chAr rfl rfl rfl rfl rfl rfl ?_
    refine Agg.chInt (midI (a, b)) HK.out (by kernel_rfl) Try.underlying2 rfl rfl rfl rfl ?_
    repeat (first | refine Agg.chMove rfl rfl rfl rfl ?_ | refine Agg.chAssign rfl rfl rfl rfl ?_ | refine Agg.chExtract rfl rfl rfl rfl rfl ?_ | refine Agg.chFA fo_Span_0 rfl rfl rfl rfl ?_ | refine Agg.chFA fo_Span_1 rfl rfl rfl rfl ?_ | refine Agg.chNot rfl rfl rfl rfl ?_ | refine Agg.chPick rfl rfl rfl rfl rfl ?_ | refine Agg.chSkip rfl rfl ?_)
    refine Agg.chEnd ?_
    intro vs w3 hb _
    refine Agg.wpNil ?_
    simp only [List.reverse, List.reverseAux, Agg.fill, List.set_cons_succ, List.set_cons_zero]
    replace HB := Lib.hid (HB.out.trans (hb.mono HB.out.size))
    replace HT := Lib.hid (HT.out.keep hb)
    clear hb
    go_wp2_with fail
    go_ret2
    exact ⟨rfl, HB.out⟩
end Go.Proofs.Ytcedalenjcbnmaa
