/-
  THE WALK OF LAYER 4's STATEMENT SpanJoins: what is asked of the document (All, Lows, Highs), rows of spans that are copied and compared.
-/
import Derived.Test.YtcedalenjcbnmaaSpanL3
import Derived.Test.YtcedalenjcbnmaaEq
namespace Go.Proofs.Ytcedalenjcbnmaa
open Go.ChangeShapes Go.WideShapes Go.ChangeAt Go.RowKit Agg

theorem flatSp : Flat Try.prog 3 31 [some .i64, some .i64] := ⟨by kernel_rfl, by kernel_rfl, by kernel_rfl, by kernel_rfl, by decide, by kernel_rfl⟩
theorem fitsSp {a b : Int} (ha : I64 a) (hb : I64 b) : Fits [some .i64, some .i64] [.int .i64 a, .int .i64 b] := by
  refine ⟨⟨a, rfl, ?_⟩, ⟨b, rfl, ?_⟩, trivial⟩
  · unfold I64 at ha; simp [Lit.wf, IntKind.min, IntKind.max, IntKind.signed, IntKind.bits]; omega
  · unfold I64 at hb; simp [Lit.wf, IntKind.min, IntKind.max, IntKind.signed, IntKind.bits]; omega
/-- what spans come to, of its ends -/
def endR (l : List Sp) (lo hi : Int) : Sp × Int :=
  if okAll l then (if l.length = 0 then ((0, 0), 9) else if lo ≤ hi then ((lo, hi), 0) else ((0, 0), 9)) else ((0, 0), 140)
theorem tog_end (F : Sp → Sp → Sp) (l : List Sp) : tog F l = endR l (foldF F l).1 (foldF F l).2 := rfl
theorem endR_nil (l : List Sp) (h : l.length = 0) (a b c d : Int) : endR l a b = endR l c d := by
  unfold endR
  rw [if_pos h, if_pos h]
theorem right_any (a b : Int) (w : World) (r : Bool) (hr : decide (a ≤ b) = r) :
    Calls Try.prog 26 #[.agg #[.int .i64 a, .int .i64 b]] w fun e w' => e = .returned (.bool r) ∧ Below w.heap.size w w' := by
  have HR := Lib.hid hr
  clear hr
  have HB := Lib.hid (Below.refl w.heap.size w)
  go_enter Try.func26, Try.ntmps26
  go_wp2_with fail
  go_ret
  exact ⟨by rw [← HR.out]; rfl, bel_alloc HB.out _⟩
theorem all_any (l : List Sp) (v : Value) (w : World) (hv : Spans w v l) :
    Calls Try.prog 41 #[v] w fun e w' => e = .returned (.bool (okAll l)) ∧ Below w.heap.size w w' := by
  obtain ⟨x, cap, rfl, _, hm⟩ := hv.shape
  unfold maxLen at hm
  have HV := Lib.hid hv
  clear hv
  have HB := Lib.hid (Below.refl w.heap.size w)
  go_enter Try.func41, Try.ntmps41
  go_wp2_with fail
  go_loopw [7] (fun i wr => ∃ k : Nat, k ≤ l.length ∧ i = .int .i64 k ∧ Below w.heap.size w wr ∧ okAll (l.take k) = true) (fun i _ => l.length - (intOf i).toNat)
  case atStart => exact ⟨0, by omega, rfl, HB.out, rfl⟩
  case round =>
    obtain ⟨k, hk, rfl, hb, hok⟩ := hrel
    replace HB := Lib.hid hb
    have HOK := Lib.hid hok
    clear hb hok
    by_cases hlt : k < l.length
    · obtain ⟨b, o, rfl, c1, c2, _⟩ := (HV.out.keep HB.out).at hlt
      by_cases hgt : l[k].2 < l[k].1
      · have HE := Lib.hid (okAll_not l k hlt hgt)
        have HC : Hid (decide (l[k].1 ≤ l[k].2) = false) := by show _ = _; simpa using hgt
        go_wp2_with fail
        refine Agg.calls_at fun w1 hw1 => ?_
        have hb : Below wr.heap.size wr w1 := by rw [hw1.out]; repeat (first | exact Below.refl _ _ | refine Agg.bel_drew ?_ | refine Agg.bel_alloc ?_ _)
        replace HB := Lib.hid (HB.out.trans (hb.mono HB.out.size))
        clear hb
        refine (right_any _ _ w1 false HC.out).mono ?_
        rintro e w2 ⟨rfl, hb⟩
        replace HB := Lib.hid (HB.out.trans (hb.mono HB.out.size))
        clear hb
        go_wp2_with fail
        go_ret
        exact ⟨by rw [HE.out]; rfl, HB.out⟩
      · have HE := Lib.hid (okAll_succ l k hlt)
        have HC : Hid (decide (l[k].1 ≤ l[k].2) = true) := by show _ = _; simpa using hgt
        go_wp2_with fail
        refine Agg.calls_at fun w3 hw3 => ?_
        have hb : Below wr.heap.size wr w3 := by rw [hw3.out]; repeat (first | exact Below.refl _ _ | refine Agg.bel_drew ?_ | refine Agg.bel_alloc ?_ _)
        replace HB := Lib.hid (HB.out.trans (hb.mono HB.out.size))
        clear hb
        refine (right_any _ _ w3 true HC.out).mono ?_
        rintro e w4 ⟨rfl, hb⟩
        replace HB := Lib.hid (HB.out.trans (hb.mono HB.out.size))
        clear hb
        go_wp2_with fail
        go_roundw
        case rel => exact ⟨k + 1, by omega, by go_num, HB.out, by rw [HE.out, HOK.out]; simp; omega⟩
        case measure => simp [intOf]; omega
    · obtain rfl : k = l.length := by omega
      go_wp2_with fail
      go_ret
      refine ⟨?_, HB.out⟩
      have := HOK.out
      rw [List.take_length] at this
      rw [this]; rfl
theorem lst_mn {α : Type} (f : α → Int) (l : List α) (h : 0 < l.length) : lstV (l.map f) l.length = mn f l := by
  cases l with
  | nil => simp at h
  | cons g r => simp only [lstV, mn]; rw [List.take_of_length_le (by simp)]; simp
theorem mst_mx {α : Type} (f : α → Int) (l : List α) (h : 0 < l.length) : mstV (l.map f) l.length = mx f l := by
  cases l with
  | nil => simp at h
  | cons g r => simp only [mstV, mx]; rw [List.take_of_length_le (by simp)]; simp
theorem lst_nil (V : List Int) (h : 0 < V.length) : lstV V 0 = V[0] := by
  cases V with
  | nil => simp at h
  | cons g r => rfl
theorem mst_nil (V : List Int) (h : 0 < V.length) : mstV V 0 = V[0] := by
  cases V with
  | nil => simp at h
  | cons g r => rfl
set_option maxHeartbeats 2000000 in
theorem Lows_any (l : List Sp) (v : Value) (w : World) (hv : Spans w v l) (h0 : 0 < l.length) :
    Calls Try.prog 36 #[v] w fun e w' => e = .returned (.tuple #[.int .i64 (mn (·.1) l), .int .i64 (mx (·.1) l)]) ∧ Below w.heap.size w w' := by
  obtain ⟨b, o, cap, rfl, _, hm, _, _⟩ := SlR.pos hv (by decide) h0
  unfold maxLen at hm
  have HV := Lib.hid hv
  have HVw := Lib.hid hv
  obtain ⟨V, hV⟩ : ∃ V, V = l.map (·.1) := ⟨_, rfl⟩
  have hVn : V.length = l.length := by rw [hV]; simp
  have hVk : ∀ k (h : k < l.length) (h' : k < V.length), V[k] = l[k].1 := by intro k h h'; subst hV; simp
  have HMN : Hid (lstV V l.length = mn (·.1) l) := by show _ = _; rw [hV]; exact lst_mn _ l h0
  have HMX : Hid (mstV V l.length = mx (·.1) l) := by show _ = _; rw [hV]; exact mst_mx _ l h0
  have HVN := Lib.hid hVn
  have HVK := Lib.hid hVk
  have hz : Hid (w.cell? ⟨b, o + (0 : Int).toNat * 2 + 0, none⟩ = some (.int .i64 l[0].1)) := by
    have := spans_cell hv h0
    show _ = _
    first | (have t := this.1; simpa using t) | (have t := this.2; simpa using t)
  have hc0 := hz.out
  have HL0 : Hid (l[0].1 = lstV V 0) := by show _ = _; rw [lst_nil V (by omega)]; exact (hVk 0 h0 (by omega)).symm
  have HM0 : Hid (l[0].1 = mstV V 0) := by show _ = _; rw [mst_nil V (by omega)]; exact (hVk 0 h0 (by omega)).symm
  clear hv hV hVn hVk hz
  have HB := Lib.hid (Below.refl w.heap.size w)
  go_enter Try.func36, Try.ntmps36
  go_upto_region 1 with (fail)
  refine Agg.chainR 10 (by kernel_rfl) (by kernel_rfl) ?_
  simp only [List.take_succ_cons, List.take_zero, List.drop_succ_cons, List.drop_zero]
  refine Agg.chMove rfl rfl rfl rfl ?_
  refine Agg.chIA tiS (by omega) (by omega) rfl rfl rfl rfl rfl ?_
  refine Agg.chFA fo_Span_0 rfl rfl rfl rfl ?_
  refine Agg.chLoad rfl rfl rfl rfl (by decide +kernel) hc0 ?_
  refine Agg.chMove rfl rfl rfl rfl ?_
  refine Agg.chIA tiS (by omega) (by omega) rfl rfl rfl rfl rfl ?_
  refine Agg.chFA fo_Span_0 rfl rfl rfl rfl ?_
  refine Agg.chLoad rfl rfl rfl rfl (by decide +kernel) hc0 ?_
  refine Agg.chAssign rfl rfl rfl rfl ?_
  refine Agg.chAssign rfl rfl rfl rfl ?_
  refine Agg.chEnd ?_
  intro vs w1 hb _
  refine Agg.wpNil ?_
  simp only [List.reverse, List.reverseAux, Agg.fill, List.set_cons_succ, List.set_cons_zero]
  replace HB := Lib.hid (HB.out.trans (hb.mono HB.out.size))
  replace HV := Lib.hid (HV.out.keep hb)
  clear hb
  clear hc0
  go_wp2_with fail
  go_loopw [18, 4, 5] (fun i a c wr => ∃ k : Nat, k ≤ l.length ∧ i = .int .i64 k ∧ a = .int .i64 (lstV V k) ∧ c = .int .i64 (mstV V k) ∧ Below w.heap.size w wr) (fun i _ _ _ => l.length - (intOf i).toNat)
  case atStart => exact ⟨0, by omega, rfl, by rw [HL0.out], by rw [HM0.out], HB.out⟩
  case round =>
    obtain ⟨k, hk, rfl, rfl, rfl, hb⟩ := hrel
    replace HB := Lib.hid hb
    have HVr := Lib.hid (HVw.out.keep HB.out)
    clear hb
    by_cases hlt : k < l.length
    · obtain ⟨b', o', hbo, c1, c2, _⟩ := HVr.out.at hlt
      have hkV : k < V.length := by have := HVN.out; omega
      have HE1 := Lib.hid (lstV_succ V k hkV)
      have HE2 := Lib.hid (mstV_succ V k hkV)
      have HVk := HVK.out k hlt hkV
      rw [HVk] at HE1 HE2
      clear HVk
      simp only [Option.some.injEq, Addr.mk.injEq, and_true] at hbo
      obtain ⟨rfl, rfl⟩ := hbo
      generalize lstV V k = X at HE1 ⊢
      generalize mstV V k = Y at HE2 ⊢
      by_cases hx : l[k].1 < X
      · by_cases hy : l[k].1 > Y
        · go_wp2_with fail
          go_roundw
          case rel => exact ⟨k + 1, by omega, by go_num, by rw [HE1.out]; congr 1; omega, by rw [HE2.out]; congr 1; omega, HB.out.alloc (by exact HB.out.size) _⟩
          case measure => simp [intOf]; omega
        · go_wp2_with fail
          go_roundw
          case rel => exact ⟨k + 1, by omega, by go_num, by rw [HE1.out]; congr 1; omega, by rw [HE2.out]; congr 1; omega, HB.out.alloc (by exact HB.out.size) _⟩
          case measure => simp [intOf]; omega
      · by_cases hy : l[k].1 > Y
        · go_wp2_with fail
          go_roundw
          case rel => exact ⟨k + 1, by omega, by go_num, by rw [HE1.out]; congr 1; omega, by rw [HE2.out]; congr 1; omega, HB.out.alloc (by exact HB.out.size) _⟩
          case measure => simp [intOf]; omega
        · go_wp2_with fail
          go_roundw
          case rel => exact ⟨k + 1, by omega, by go_num, by rw [HE1.out]; congr 1; omega, by rw [HE2.out]; congr 1; omega, HB.out.alloc (by exact HB.out.size) _⟩
          case measure => simp [intOf]; omega
    · obtain rfl : k = l.length := by omega
      go_wp2_with fail
      go_ret2
      exact ⟨by rw [← HMN.out, ← HMX.out]; rfl, HB.out⟩
set_option maxHeartbeats 2000000 in
theorem Highs_any (l : List Sp) (v : Value) (w : World) (hv : Spans w v l) (h0 : 0 < l.length) :
    Calls Try.prog 37 #[v] w fun e w' => e = .returned (.tuple #[.int .i64 (mn (·.2) l), .int .i64 (mx (·.2) l)]) ∧ Below w.heap.size w w' := by
  obtain ⟨b, o, cap, rfl, _, hm, _, _⟩ := SlR.pos hv (by decide) h0
  unfold maxLen at hm
  have HV := Lib.hid hv
  have HVw := Lib.hid hv
  obtain ⟨V, hV⟩ : ∃ V, V = l.map (·.2) := ⟨_, rfl⟩
  have hVn : V.length = l.length := by rw [hV]; simp
  have hVk : ∀ k (h : k < l.length) (h' : k < V.length), V[k] = l[k].2 := by intro k h h'; subst hV; simp
  have HMN : Hid (lstV V l.length = mn (·.2) l) := by show _ = _; rw [hV]; exact lst_mn _ l h0
  have HMX : Hid (mstV V l.length = mx (·.2) l) := by show _ = _; rw [hV]; exact mst_mx _ l h0
  have HVN := Lib.hid hVn
  have HVK := Lib.hid hVk
  have hz : Hid (w.cell? ⟨b, o + (0 : Int).toNat * 2 + 1, none⟩ = some (.int .i64 l[0].2)) := by
    have := spans_cell hv h0
    show _ = _
    first | (have t := this.1; simpa using t) | (have t := this.2; simpa using t)
  have hc0 := hz.out
  have HL0 : Hid (l[0].2 = lstV V 0) := by show _ = _; rw [lst_nil V (by omega)]; exact (hVk 0 h0 (by omega)).symm
  have HM0 : Hid (l[0].2 = mstV V 0) := by show _ = _; rw [mst_nil V (by omega)]; exact (hVk 0 h0 (by omega)).symm
  clear hv hV hVn hVk hz
  have HB := Lib.hid (Below.refl w.heap.size w)
  go_enter Try.func37, Try.ntmps37
  go_upto_region 1 with (fail)
  refine Agg.chainR 10 (by kernel_rfl) (by kernel_rfl) ?_
  simp only [List.take_succ_cons, List.take_zero, List.drop_succ_cons, List.drop_zero]
  refine Agg.chMove rfl rfl rfl rfl ?_
  refine Agg.chIA tiS (by omega) (by omega) rfl rfl rfl rfl rfl ?_
  refine Agg.chFA fo_Span_1 rfl rfl rfl rfl ?_
  refine Agg.chLoad rfl rfl rfl rfl (by decide +kernel) hc0 ?_
  refine Agg.chMove rfl rfl rfl rfl ?_
  refine Agg.chIA tiS (by omega) (by omega) rfl rfl rfl rfl rfl ?_
  refine Agg.chFA fo_Span_1 rfl rfl rfl rfl ?_
  refine Agg.chLoad rfl rfl rfl rfl (by decide +kernel) hc0 ?_
  refine Agg.chAssign rfl rfl rfl rfl ?_
  refine Agg.chAssign rfl rfl rfl rfl ?_
  refine Agg.chEnd ?_
  intro vs w1 hb _
  refine Agg.wpNil ?_
  simp only [List.reverse, List.reverseAux, Agg.fill, List.set_cons_succ, List.set_cons_zero]
  replace HB := Lib.hid (HB.out.trans (hb.mono HB.out.size))
  replace HV := Lib.hid (HV.out.keep hb)
  clear hb
  clear hc0
  go_wp2_with fail
  go_loopw [18, 4, 5] (fun i a c wr => ∃ k : Nat, k ≤ l.length ∧ i = .int .i64 k ∧ a = .int .i64 (lstV V k) ∧ c = .int .i64 (mstV V k) ∧ Below w.heap.size w wr) (fun i _ _ _ => l.length - (intOf i).toNat)
  case atStart => exact ⟨0, by omega, rfl, by rw [HL0.out], by rw [HM0.out], HB.out⟩
  case round =>
    obtain ⟨k, hk, rfl, rfl, rfl, hb⟩ := hrel
    replace HB := Lib.hid hb
    have HVr := Lib.hid (HVw.out.keep HB.out)
    clear hb
    by_cases hlt : k < l.length
    · obtain ⟨b', o', hbo, c1, c2, _⟩ := HVr.out.at hlt
      have hkV : k < V.length := by have := HVN.out; omega
      have HE1 := Lib.hid (lstV_succ V k hkV)
      have HE2 := Lib.hid (mstV_succ V k hkV)
      have HVk := HVK.out k hlt hkV
      rw [HVk] at HE1 HE2
      clear HVk
      simp only [Option.some.injEq, Addr.mk.injEq, and_true] at hbo
      obtain ⟨rfl, rfl⟩ := hbo
      generalize lstV V k = X at HE1 ⊢
      generalize mstV V k = Y at HE2 ⊢
      by_cases hx : l[k].2 < X
      · by_cases hy : l[k].2 > Y
        · go_wp2_with fail
          go_roundw
          case rel => exact ⟨k + 1, by omega, by go_num, by rw [HE1.out]; congr 1; omega, by rw [HE2.out]; congr 1; omega, HB.out.alloc (by exact HB.out.size) _⟩
          case measure => simp [intOf]; omega
        · go_wp2_with fail
          go_roundw
          case rel => exact ⟨k + 1, by omega, by go_num, by rw [HE1.out]; congr 1; omega, by rw [HE2.out]; congr 1; omega, HB.out.alloc (by exact HB.out.size) _⟩
          case measure => simp [intOf]; omega
      · by_cases hy : l[k].2 > Y
        · go_wp2_with fail
          go_roundw
          case rel => exact ⟨k + 1, by omega, by go_num, by rw [HE1.out]; congr 1; omega, by rw [HE2.out]; congr 1; omega, HB.out.alloc (by exact HB.out.size) _⟩
          case measure => simp [intOf]; omega
        · go_wp2_with fail
          go_roundw
          case rel => exact ⟨k + 1, by omega, by go_num, by rw [HE1.out]; congr 1; omega, by rw [HE2.out]; congr 1; omega, HB.out.alloc (by exact HB.out.size) _⟩
          case measure => simp [intOf]; omega
    · obtain rfl : k = l.length := by omega
      go_wp2_with fail
      go_ret2
      exact ⟨by rw [← HMN.out, ← HMX.out]; rfl, HB.out⟩
set_option maxRecDepth 100000 in
theorem clone_any (l : List Sp) (v : Value) (w : World) (hv : Spans w v l) (hn : l.length ≤ 20) :
    Calls Try.prog 66 #[v] w fun e w' => ∃ u, e = .returned u ∧ Spans w' u l ∧ Below w.heap.size w w' := by
  rcases hv.2 with ⟨rfl, h0⟩ | ⟨x, cap, rfl, hc1, hc2, h5⟩
  · have hl : l = [] := List.eq_nil_of_length_eq_zero h0
    subst hl
    have HV := Lib.hid hv
    clear hv h0
    have HB := Lib.hid (Below.refl w.heap.size w)
    go_enter Try.func66, Try.ntmps66
    have he : ∀ w : World, (binOp .eql 24 (.slice none 0 0) (.slice none 0 0)).run Try.prog w = .ok (.bool true) w := fun _ => rfl
    go_wp2_with fail
    go_ret
    exact ⟨_, rfl, SlR.nil _ _, HB.out⟩
  · have hc3 : cap ≤ 9223372036854775807 := by unfold maxLen at hc2; omega
    have hs := Lib.hid (SlR.keep hv ((Below.refl _ w).alloc (Nat.le_refl _) (.cells #[] 31)))
    have hown := Lib.hid (World.ownsRow_lit (e := 31) (size := 2) (base := w.heap.size) w #[] 0 (Nat.le_refl _) (by decide) rfl)
    clear hv h5 hc1 hc2
    have HB := Lib.hid (Below.refl w.heap.size w)
    go_enter Try.func66, Try.ntmps66
    have he : ∀ w : World, (binOp .eql 24 (.slice (some x) l.length cap) (.slice none 0 0)).run Try.prog w = .ok (.bool false) w := fun _ => rfl
    go_wp2_with (refine Agg.append tiS _ _ rfl rfl w.heap.size (v := .slice (some ⟨w.heap.size, 0, none⟩) 0 0) rfl hown.out rfl hs.out (spC_one l) (by unfold maxLen; omega) (by omega) (by simp) ?_; intro v' w' ho hg hnil; simp only [Act.put, List.setIfInBounds_toArray, List.set_cons_succ, List.set_cons_zero])
    go_ret
    refine ⟨v', rfl, ?_, ?_⟩
    · have := ownSl ho
      simpa [Spans] using this
    · exact ((Below.refl _ w).alloc (Nat.le_refl _) _).trans ((grown_below hg (B := w.heap.size) (by simp) (by simp [Value.ownBlock])))
theorem spC_take (l : List Sp) : ∀ m, spC (l.take m) = (spC l).take (m * 2) := by
  induction l with
  | nil => simp [spC]
  | cons s r ih =>
    intro m
    cases m with
    | zero => simp [spC]
    | succ m => rw [List.take_succ_cons, spC_cons, spC_cons, ih, show (m + 1) * 2 = m * 2 + 1 + 1 by omega, List.take_succ_cons, List.take_succ_cons]
set_option maxRecDepth 100000 in
theorem few_any (l : List Sp) (v : Value) (w : World) (hv : Spans w v l) :
    Calls Try.prog 35 #[v] w fun e w' => ∃ u, e = .returned u ∧ Spans w' u (l.take 20) ∧ Below w.heap.size w w' := by
  obtain ⟨x, cap, rfl, hc, hm⟩ := hv.shape
  have hc3 : cap ≤ 9223372036854775807 := by unfold maxLen at hm; omega
  have hs0 := SlR.take hv (min l.length 20) (Nat.min_le_left _ _)
  have hm2 : min l.length 20 ≤ l.length := Nat.min_le_left _ _
  have hm3 : min l.length 20 ≤ 20 := Nat.min_le_right _ _
  have hme : min (l.length : Int) 20 = ((min l.length 20 : Nat) : Int) := by omega
  have ht : l.take 20 = l.take (min l.length 20) := by rw [List.take_eq_take_min]; congr 1; omega
  have hmc : ((min l.length 20 : Nat) : Int) ≤ cap := by omega
  have hs : Hid (Spans w (.slice x (min l.length 20) cap) (l.take 20)) := by
    show SlR _ _ _ _ _
    rw [show (l.take 20).length = min l.length 20 by rw [List.length_take]; omega]
    have e : spC (l.take 20) = (spC l).take (min l.length 20 * 2) := by
      rw [ht]; exact spC_take l _
    rw [e]; exact hs0
  generalize min l.length 20 = m at *
  clear hv hs0 hm ht
  have HB := Lib.hid (Below.refl w.heap.size w)
  go_enter Try.func35, Try.ntmps35
  go_wp2_with (refine Agg.min2 _ _ _ (m : Int) rfl rfl rfl rfl (by omega) ?_; simp only [Act.put, List.setIfInBounds_toArray, List.set_cons_succ, List.set_cons_zero])
  refine (clone_any (l.take 20) _ w hs.out (by rw [List.length_take]; omega)).mono ?_
  rintro e w' ⟨u, rfl, hu, hb⟩
  go_wp2_with fail
  go_ret
  exact ⟨u, rfl, hu, hb⟩
set_option maxHeartbeats 2000000 in
theorem equalS_any (l : List Sp) (u v : Value) (w : World) (hu : Spans w u l) (hv : Spans w v l) (hl : ∀ s ∈ l, I64 s.1 ∧ I64 s.2) :
    Calls Try.prog 39 #[u, v] w fun e w' => e = .returned (.bool true) ∧ Below w.heap.size w w' := by
  obtain ⟨x, cap, rfl, hc1, hc2⟩ := hu.shape
  obtain ⟨y, dap, rfl, hd1, hd2⟩ := hv.shape
  unfold maxLen at hc2 hd2
  have HU := Lib.hid hu
  have HV := Lib.hid hv
  have HL := Lib.hid hl
  clear hu hv hl
  have hne : ((l.length : Int) != l.length) = false := by simp
  have HB := Lib.hid (Below.refl w.heap.size w)
  go_enter Try.func39, Try.ntmps39
  go_wp2_with fail
  go_loopw [13] (fun i wr => ∃ k : Nat, k ≤ l.length ∧ i = .int .i64 k ∧ Below w.heap.size w wr) (fun i _ => l.length - (intOf i).toNat)
  case atStart => exact ⟨0, by omega, rfl, Below.refl _ _⟩
  case round =>
    obtain ⟨k, hk, rfl, hb⟩ := hrel
    replace HB := Lib.hid hb
    have HU2 := Lib.hid (HU.out.keep HB.out)
    have HV2 := Lib.hid (HV.out.keep HB.out)
    clear hb
    by_cases hlt : k < l.length
    · obtain ⟨b, o, rfl, c1, c2, _⟩ := HU2.out.at hlt
      obtain ⟨b2, o2, rfl, d1, d2, _⟩ := HV2.out.at hlt
      have c1' : wr.cell? ⟨b, o + (k : Int).toNat * 2, none⟩ = some (.int .i64 l[k].1) := by simpa using c1
      have c2' : wr.cell? ⟨b, o + (k : Int).toNat * 2 + 1, none⟩ = some (.int .i64 l[k].2) := by simpa using c2
      have d1' : wr.cell? ⟨b2, o2 + (k : Int).toNat * 2, none⟩ = some (.int .i64 l[k].1) := by simpa using d1
      have d2' : wr.cell? ⟨b2, o2 + (k : Int).toNat * 2 + 1, none⟩ = some (.int .i64 l[k].2) := by simpa using d2
      have hi := HL.out _ (List.getElem_mem hlt)
      clear c1 c2 d1 d2
      go_upto_region 6 with (fail)
      refine Agg.chainR 9 (by kernel_rfl) (by kernel_rfl) ?_
      simp only [List.take_succ_cons, List.take_zero, List.drop_succ_cons, List.drop_zero]
      refine Agg.chMove rfl rfl rfl rfl ?_
      refine Agg.chMove rfl rfl rfl rfl ?_
      refine Agg.chIA tiS (by omega) (by omega) rfl rfl rfl rfl rfl ?_
      refine Agg.chRow2 (by decide +kernel) rfl rfl rfl rfl c1' c2' ?_
      refine Agg.chMove rfl rfl rfl rfl ?_
      refine Agg.chMove rfl rfl rfl rfl ?_
      refine Agg.chIA tiS (by omega) (by omega) rfl rfl rfl rfl rfl ?_
      refine Agg.chRow2 (by decide +kernel) rfl rfl rfl rfl d1' d2' ?_
      refine Agg.chBin (v := .bool false) rfl rfl rfl rfl rfl (fun w => flatSp.gd .neq _ _ _ _ w) (fun w => (by simpa using flatSp.neq (xs := [.int .i64 l[k].1, .int .i64 l[k].2]) (ys := [.int .i64 l[k].1, .int .i64 l[k].2]) (fitsSp hi.1 hi.2) (fitsSp hi.1 hi.2) true (by simp) w)) ?_
      refine Agg.chEnd ?_
      intro vs w1 hb _
      refine Agg.wpNil ?_
      simp only [List.reverse, List.reverseAux, Agg.fill, List.set_cons_succ, List.set_cons_zero]
      replace HB := Lib.hid (HB.out.trans (hb.mono HB.out.size))
      clear hb
      go_wp2_with fail
      go_roundw
      case rel => exact ⟨k + 1, by omega, by go_num, HB.out⟩
      case measure => simp [intOf]; omega
    · obtain rfl : k = l.length := by omega
      go_wp2_with fail
      go_ret
      exact ⟨rfl, HB.out⟩
set_option maxHeartbeats 2000000 in
theorem ended_any (l : List Sp) (v : Value) (w : World) (hv : Spans w v l) (lo hi : Int) (hlo : I64 lo) (hhi : I64 hi) (s : Sp) (er : Int) (h : endR l lo hi = (s, er)) :
    Calls Try.prog 38 #[.agg #[.int .i64 s.1, .int .i64 s.2], .int .i64 er, v, .int .i64 lo, .int .i64 hi] w fun e w' => e = .returned (.bool true) ∧ Below w.heap.size w w' := by
  obtain ⟨x, cap, rfl, hc, hm⟩ := hv.shape
  have hc3 : cap ≤ 9223372036854775807 := by unfold maxLen at hm; omega
  have HV := Lib.hid hv
  have HLO := Lib.hid hlo
  have HHI := Lib.hid hhi
  clear hv hm hlo hhi
  by_cases hok : okAll l = true
  · by_cases hl : l.length = 0
    · have : (s, er) = ((0, 0), 9) := by rw [← h, endR, if_pos hok, if_pos hl]
      simp only [Prod.mk.injEq] at this
      obtain ⟨rfl, rfl⟩ := this
      rw [hl] at HV ⊢
      have HOK := Lib.hid hok
      clear hok h
      have HB := Lib.hid (Below.refl w.heap.size w)
      go_enter Try.func38, Try.ntmps38
      go_wp2_with fail
      refine Agg.calls_at fun w1 hw1 => ?_
      have hb : Below w.heap.size w w1 := by rw [hw1.out]; repeat (first | exact Below.refl _ _ | refine Agg.bel_drew ?_ | refine Agg.bel_alloc ?_ _)
      replace HB := Lib.hid (HB.out.trans (hb.mono HB.out.size))
      replace HV := Lib.hid (HV.out.keep hb)
      clear hb
      have H5 : Hid (Blk w1 w.heap.size 31 [.int .i64 0, .int .i64 0]) := by show Blk _ _ _ _; rw [hw1.out]; exact Blk.new w 31 #[.int .i64 0, .int .i64 0]
      clear hw1
      refine (all_any l _ w1 HV.out).mono ?_
      rintro e w2 ⟨rfl, hb⟩
      replace HB := Lib.hid (HB.out.trans (hb.mono HB.out.size))
      replace HV := Lib.hid (HV.out.keep hb)
      replace H5 := Lib.hid (H5.out.keep hb)
      clear hb
      rw [HOK.out]
      have xH5_0 := H5.out.cell 0
      have xH5_1 := H5.out.cell 1
      have lH5 := H5.out.lt
      simp only [List.getElem?_cons_zero, List.getElem?_cons_succ] at xH5_0 xH5_1
      go_wp2_with fail
      go_ret
      exact ⟨rfl, HB.out⟩
    · by_cases hle : lo ≤ hi
      · have : (s, er) = ((lo, hi), 0) := by rw [← h, endR, if_pos hok, if_neg hl, if_pos hle]
        simp only [Prod.mk.injEq] at this
        obtain ⟨rfl, rfl⟩ := this
        have hlb : ((l.length : Int) == 0) = false := by simpa using hl
        have hgt : ¬ lo > hi := by omega
        have HOK := Lib.hid hok
        clear hok h hl hle
        have HB := Lib.hid (Below.refl w.heap.size w)
        go_enter Try.func38, Try.ntmps38
        go_wp2_with fail
        refine Agg.calls_at fun w1 hw1 => ?_
        have hb : Below w.heap.size w w1 := by rw [hw1.out]; repeat (first | exact Below.refl _ _ | refine Agg.bel_drew ?_ | refine Agg.bel_alloc ?_ _)
        replace HB := Lib.hid (HB.out.trans (hb.mono HB.out.size))
        replace HV := Lib.hid (HV.out.keep hb)
        clear hb
        have H5 : Hid (Blk w1 w.heap.size 31 [.int .i64 lo, .int .i64 hi]) := by show Blk _ _ _ _; rw [hw1.out]; exact Blk.new w 31 #[.int .i64 lo, .int .i64 hi]
        clear hw1
        refine (all_any l _ w1 HV.out).mono ?_
        rintro e w2 ⟨rfl, hb⟩
        replace HB := Lib.hid (HB.out.trans (hb.mono HB.out.size))
        replace HV := Lib.hid (HV.out.keep hb)
        replace H5 := Lib.hid (H5.out.keep hb)
        clear hb
        rw [HOK.out]
        have he : ∀ w : World, (binOp .eql 31 (.agg #[.int .i64 lo, .int .i64 hi]) (.agg #[.int .i64 lo, .int .i64 hi])).run Try.prog w = .ok (.bool true) w := fun w => flatSp.eql (fitsSp HLO.out HHI.out) (fitsSp HLO.out HHI.out) true (by simp) w
        have hg : ∀ (a b : Operand) (w : World), (eqGuard .eql 31 a b (.agg #[.int .i64 lo, .int .i64 hi]) (.agg #[.int .i64 lo, .int .i64 hi])).run Try.prog w = .ok () w := fun a b w => flatSp.gd .eql _ _ _ _ w
        have xH5_0 := H5.out.cell 0
        have xH5_1 := H5.out.cell 1
        have lH5 := H5.out.lt
        simp only [List.getElem?_cons_zero, List.getElem?_cons_succ] at xH5_0 xH5_1
        go_wp2_with fail
        go_ret
        exact ⟨rfl, HB.out⟩
      · have : (s, er) = ((0, 0), 9) := by rw [← h, endR, if_pos hok, if_neg hl, if_neg hle]
        simp only [Prod.mk.injEq] at this
        obtain ⟨rfl, rfl⟩ := this
        have hlb : ((l.length : Int) == 0) = false := by simpa using hl
        have hgt : lo > hi := by omega
        have HOK := Lib.hid hok
        clear hok h hl hle
        have HB := Lib.hid (Below.refl w.heap.size w)
        go_enter Try.func38, Try.ntmps38
        go_wp2_with fail
        refine Agg.calls_at fun w1 hw1 => ?_
        have hb : Below w.heap.size w w1 := by rw [hw1.out]; repeat (first | exact Below.refl _ _ | refine Agg.bel_drew ?_ | refine Agg.bel_alloc ?_ _)
        replace HB := Lib.hid (HB.out.trans (hb.mono HB.out.size))
        replace HV := Lib.hid (HV.out.keep hb)
        clear hb
        have H5 : Hid (Blk w1 w.heap.size 31 [.int .i64 0, .int .i64 0]) := by show Blk _ _ _ _; rw [hw1.out]; exact Blk.new w 31 #[.int .i64 0, .int .i64 0]
        clear hw1
        refine (all_any l _ w1 HV.out).mono ?_
        rintro e w2 ⟨rfl, hb⟩
        replace HB := Lib.hid (HB.out.trans (hb.mono HB.out.size))
        replace HV := Lib.hid (HV.out.keep hb)
        replace H5 := Lib.hid (H5.out.keep hb)
        clear hb
        rw [HOK.out]
        have xH5_0 := H5.out.cell 0
        have xH5_1 := H5.out.cell 1
        have lH5 := H5.out.lt
        simp only [List.getElem?_cons_zero, List.getElem?_cons_succ] at xH5_0 xH5_1
        go_wp2_with fail
        go_ret
        exact ⟨rfl, HB.out⟩
  · have : (s, er) = ((0, 0), 140) := by rw [← h, endR, if_neg hok]
    simp only [Prod.mk.injEq] at this
    obtain ⟨rfl, rfl⟩ := this
    have HOK : Hid (okAll l = false) := by show _ = _; simpa using hok
    clear hok h
    have HB := Lib.hid (Below.refl w.heap.size w)
    go_enter Try.func38, Try.ntmps38
    go_wp2_with fail
    refine Agg.calls_at fun w1 hw1 => ?_
    have hb : Below w.heap.size w w1 := by rw [hw1.out]; repeat (first | exact Below.refl _ _ | refine Agg.bel_drew ?_ | refine Agg.bel_alloc ?_ _)
    replace HB := Lib.hid (HB.out.trans (hb.mono HB.out.size))
    replace HV := Lib.hid (HV.out.keep hb)
    clear hb
    have H5 : Hid (Blk w1 w.heap.size 31 [.int .i64 0, .int .i64 0]) := by show Blk _ _ _ _; rw [hw1.out]; exact Blk.new w 31 #[.int .i64 0, .int .i64 0]
    clear hw1
    refine (all_any l _ w1 HV.out).mono ?_
    rintro e w2 ⟨rfl, hb⟩
    replace HB := Lib.hid (HB.out.trans (hb.mono HB.out.size))
    replace HV := Lib.hid (HV.out.keep hb)
    replace H5 := Lib.hid (H5.out.keep hb)
    clear hb
    rw [HOK.out]
    have xH5_0 := H5.out.cell 0
    have xH5_1 := H5.out.cell 1
    have lH5 := H5.out.lt
    simp only [List.getElem?_cons_zero, List.getElem?_cons_succ] at xH5_0 xH5_1
    go_wp2_with fail
    go_ret
    exact ⟨rfl, HB.out⟩
end Go.Proofs.Ytcedalenjcbnmaa
