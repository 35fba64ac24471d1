/-
  THE WALK OF LAYER 4's STATEMENT SpanHolds.
-/
import Derived.Test.YtcedalenjcbnmaaSpanP1
import Derived.Test.YtcedalenjcbnmaaSpanL1
import Derived.Test.YtcedalenjcbnmaaGood2
import Derived.Deep.Cut
namespace Go.Proofs.Ytcedalenjcbnmaa
open Go.ChangeShapes Go.WideShapes Go.ChangeAt Go.RowKit Agg

theorem u64_wf {z : Int} (h : (Lit.int .u64 z).wf = true) : 0 ≤ z ∧ z < 18446744073709551616 := by
  simp [Lit.wf, IntKind.min, IntKind.max, IntKind.signed, IntKind.bits] at h
  omega
theorem good_gs {w : World} {fuel : Nat} {v : Value} (h : Agg.Good Try.prog w fuel 22 [v]) : ∃ l : List Gs, Gss w v l ∧ ∀ g ∈ l, GsOk g := by
  obtain ⟨l, h1, h2, _⟩ := good_sl (α := Gs) (by kernel_rfl) (sz := 3) (by kernel_rfl) (fun g => [.int .i64 g.1.1, .int .i64 g.1.2, .int .u64 g.2]) GsOk (fun _ => rfl) (fun fuel cs hg => by
    have hf := good_fits fuel 4 33 [some .i64, some .i64, some .u64] cs (by kernel_rfl) hg
    obtain ⟨x, r, rfl, ⟨a, rfl, ha⟩, hf2⟩ := hf.cons
    obtain ⟨y, r2, rfl, ⟨b, rfl, hb⟩, hf3⟩ := hf2.cons
    obtain ⟨z, r3, rfl, ⟨t, rfl, ht⟩, hf4⟩ := hf3.cons
    rw [hf4.nil]
    exact ⟨((a, b), t), rfl, i64_wf ha, i64_wf hb, u64_wf ht⟩) h
  exact ⟨l, h1, h2⟩
theorem tog_nil (F : Sp → Sp → Sp) : tog F [] = ((0, 0), 9) := by
  simp [tog, okAll]
theorem ints_cell {w : World} {b o n cap : Nat} {V : List Int} (h : SlR w (.slice (some ⟨b, o, none⟩) n cap) 1 V.length (iC V)) {k : Nat} (hk : k < V.length) : w.cell? ⟨b, o + k, none⟩ = some (.int .i64 V[k]) := by
  obtain ⟨b', o', cap', hv, _, _, hc, _⟩ := h.pos (by decide) (by omega)
  simp only [Value.slice.injEq, Option.some.injEq, Addr.mk.injEq, and_true] at hv
  obtain ⟨⟨rfl, rfl⟩, _⟩ := hv
  exact hc k _ (by simp [iC, hk])
theorem spans_cell {w : World} {b o n cap : Nat} {l : List Sp} (h : Spans w (.slice (some ⟨b, o, none⟩) n cap) l) {k : Nat} (hk : k < l.length) : w.cell? ⟨b, o + k * 2, none⟩ = some (.int .i64 l[k].1) ∧ w.cell? ⟨b, o + k * 2 + 1, none⟩ = some (.int .i64 l[k].2) := by
  obtain ⟨b', o', hv, h1, h2, _⟩ := h.at hk
  simp only [Option.some.injEq, Addr.mk.injEq, and_true] at hv
  obtain ⟨rfl, rfl⟩ := hv
  exact ⟨h1, h2⟩
theorem lst_zero (V : List Int) (h : 0 < V.length) : V[0] = lstV V 0 := by
  cases V with
  | nil => simp at h
  | cons a r => rfl
theorem mst_zero (V : List Int) (h : 0 < V.length) : V[0] = mstV V 0 := by
  cases V with
  | nil => simp at h
  | cons a r => rfl
set_option maxHeartbeats 4000000 in
set_option maxRecDepth 100000 in
theorem holds_any (l : List Gs) (v : Value) (w : World) (hv : Gss w v l) (hl : ∀ g ∈ l, GsOk g) :
    Calls Try.prog 5 #[v] w fun e w' => e = .returned (.bool true) ∧ Below w.heap.size w w' := by
  have HV := Lib.hid hv
  have HL := Lib.hid hl
  have HM : Hid (∀ g ∈ gsel l, GsOk g ∧ g.1.1 ≤ liesI g ∧ liesI g ≤ g.1.2) := fun g hg => ⟨hl g (gsel_mem l g hg).1, lies_in g (hl g (gsel_mem l g hg).1) (gsel_mem l g hg).2⟩
  clear hv hl
  have HB := Lib.hid (Below.refl w.heap.size w)
  go_enter Try.func5, Try.ntmps5
  go_wp2_with fail
  refine (wakes_any w).mono ?_
  rintro e w1 ⟨rfl, hb⟩
  replace HB := Lib.hid (HB.out.trans (hb.mono HB.out.size))
  replace HV := Lib.hid (HV.out.keep hb)
  clear hb
  go_wp2_with fail
  refine (guesses_any l v w1 HV.out HL.out).mono ?_
  rintro e w2 ⟨⟨sa, sb, rfl, ho1, ho2⟩, hb⟩
  replace HB := Lib.hid (HB.out.trans (hb.mono HB.out.size))
  replace HV := Lib.hid (HV.out.keep hb)
  clear hb
  have hS : Spans w2 sa ((gsel l).map (·.1)) := by unfold Spans; rw [List.length_map]; exact ownSl ho1
  have hI : SlR w2 sb 1 ((gsel l).map liesI).length (iC ((gsel l).map liesI)) := by rw [List.length_map]; exact ownSl ho2
  have HN := Lib.hid (gsel_few l)
  clear ho1 ho2
  rcases Nat.eq_zero_or_pos (gsel l).length with h0 | h0
  · have hg : gsel l = [] := List.eq_nil_of_length_eq_zero h0
    rw [hg] at hS
    obtain ⟨x, cap, rfl, _, hm⟩ := hS.shape
    simp only [List.map_nil, List.length_nil] at hm ⊢
    clear hS hI
    go_wp2_with fail
    refine (Join_any [] _ w2 (SlR.nil _ _) (by simp) _ _ (tog_nil joinF)).mono ?_
    rintro e w3 ⟨rfl, hb⟩
    replace HB := Lib.hid (HB.out.trans (hb.mono HB.out.size))
    replace HV := Lib.hid (HV.out.keep hb)
    clear hb
    go_wp2_with fail
    refine Agg.calls_at fun w4 hw4 => ?_
    have hb : Below w3.heap.size w3 w4 := by rw [hw4.out]; repeat (first | exact Below.refl _ _ | refine Agg.bel_drew ?_ | refine Agg.bel_alloc ?_ _)
    replace HB := Lib.hid (HB.out.trans (hb.mono HB.out.size))
    replace HV := Lib.hid (HV.out.keep hb)
    clear hb
    refine (Plus_any [] _ w4 (SlR.nil _ _) (by simp) (by simp) (0, 0) 0 rfl).mono ?_
    rintro e w5 ⟨rfl, hb⟩
    replace HB := Lib.hid (HB.out.trans (hb.mono HB.out.size))
    replace HV := Lib.hid (HV.out.keep hb)
    clear hb
    go_wp2_with fail
    go_ret
    exact ⟨rfl, bel_alloc HB.out _⟩
  · obtain ⟨⟨A1, A2⟩, ⟨M1, M2⟩, ⟨J1, J2⟩, hp, hA1, hA2, hM1, hM2, hJ1, hJ2⟩ := holds_plain (gsel l) h0 (fun g hg => (HM.out g hg).2)
    obtain ⟨L, hL⟩ : ∃ L, L = (gsel l).map (·.1) := ⟨_, rfl⟩
    obtain ⟨V, hV⟩ : ∃ V, V = (gsel l).map liesI := ⟨_, rfl⟩
    have hLV : V.length = L.length := by rw [hL, hV]; simp
    have hL0 : 0 < L.length := by rw [hL]; simpa using h0
    have hL20 : L.length ≤ 20 := by rw [hL]; simpa using HN.out
    have hiL : ∀ s ∈ L, I64 s.1 ∧ I64 s.2 := by
      rw [hL]; intro s hs
      obtain ⟨g, hg, rfl⟩ := List.mem_map.1 hs
      exact ⟨(HM.out g hg).1.1, (HM.out g hg).1.2.1⟩
    have hAI : I64 A1 ∧ I64 A2 := by
      obtain ⟨g, hg, e⟩ := hA1; obtain ⟨g2, hg2, e2⟩ := hA2
      simp only at e e2
      rw [e, e2]; exact ⟨(HM.out g hg).1.1, (HM.out g2 hg2).1.2.1⟩
    have hMI : I64 M1 ∧ I64 M2 := by
      obtain ⟨g, hg, e⟩ := hM1; obtain ⟨g2, hg2, e2⟩ := hM2
      simp only at e e2
      rw [e, e2]; exact ⟨(HM.out g hg).1.1, (HM.out g2 hg2).1.2.1⟩
    rw [← hL, ← hV] at hp
    rw [← hL] at hS
    rw [← hV] at hI
    have HP := Lib.hid hp
    have HS := Lib.hid hS
    have HI := Lib.hid hI
    have HIL := Lib.hid hiL
    have HAI := Lib.hid hAI
    have HMI := Lib.hid hMI
    clear hp hS hI hiL hAI hMI hL hV hA1 hA2 hM1 hM2 hJ1 hJ2 HM HN HL h0
    obtain ⟨xa, ca, rfl, _, hma⟩ := HS.out.shape
    obtain ⟨ba, oa, cap, hva, _, hca, _, _⟩ := HS.out.pos hL0
    simp only [Value.slice.injEq, true_and] at hva
    obtain ⟨rfl, rfl⟩ := hva
    obtain ⟨xb, cb, rfl, _, hmb⟩ := HI.out.shape
    obtain ⟨bb, ob, cb', hvb, _, _, _, _⟩ := HI.out.pos (by decide) (by omega)
    simp only [Value.slice.injEq, true_and] at hvb
    obtain ⟨rfl, rfl⟩ := hvb
    have hv0 : 0 < V.length := by omega
    have hc0 := ints_cell HI.out hv0
    have hc1 := hc0
    rw [lst_zero V hv0] at hc0
    rw [mst_zero V hv0] at hc1
    unfold maxLen at *
    go_upto_region 8 with (fail)
    refine Agg.chainR 8 (by kernel_rfl) (by kernel_rfl) ?_
    simp only [List.take_succ_cons, List.take_zero, List.drop_succ_cons, List.drop_zero]
    refine Agg.chMove rfl rfl rfl rfl ?_
    refine Agg.chIA tiI (by omega) (by omega) rfl rfl rfl rfl rfl ?_
    refine Agg.chLoad rfl rfl rfl rfl (by decide +kernel) hc0 ?_
    refine Agg.chMove rfl rfl rfl rfl ?_
    refine Agg.chIA tiI (by omega) (by omega) rfl rfl rfl rfl rfl ?_
    refine Agg.chLoad rfl rfl rfl rfl (by decide +kernel) hc1 ?_
    refine Agg.chAssign rfl rfl rfl rfl ?_
    refine Agg.chAssign rfl rfl rfl rfl ?_
    refine Agg.chEnd ?_
    intro vs w6 hb _
    refine Agg.wpNil ?_
    simp only [List.reverse, List.reverseAux, Agg.fill, List.set_cons_succ, List.set_cons_zero]
    replace HB := Lib.hid (HB.out.trans (hb.mono HB.out.size))
    replace HS := Lib.hid (HS.out.keep hb)
    replace HI := Lib.hid (HI.out.keep hb)
    clear hb
    clear hc0 hc1
    go_wp2_with fail
    go_loopw [59, 9, 10] (fun i a b wr => ∃ k : Nat, k ≤ V.length ∧ i = .int .i64 k ∧ a = .int .i64 (lstV V k) ∧ b = .int .i64 (mstV V k) ∧ Below w6.heap.size w6 wr) (fun i _ _ _ => V.length - (intOf i).toNat)
    case atStart => exact ⟨0, by omega, rfl, rfl, rfl, Below.refl _ _⟩
    case round =>
      obtain ⟨k, hk, rfl, rfl, rfl, hb⟩ := hrel
      by_cases hlt : k < V.length
      · have hc := ints_cell (HI.out.keep hb) hlt
        have HK := Lib.hid hb
        have HMI := Lib.hid (lstV_succ V k hlt).symm
        have HMA := Lib.hid (mstV_succ V k hlt).symm
        clear hb
        go_wp2_with (first | (refine Agg.min2 (.tmp 63) (.tmp 64) _ _ rfl rfl rfl rfl HMI.out ?_; simp only [Act.put, List.setIfInBounds_toArray, List.set_cons_succ, List.set_cons_zero]) | (refine Agg.max2 (.tmp 66) (.tmp 67) _ _ rfl rfl rfl rfl HMA.out ?_; simp only [Act.put, List.setIfInBounds_toArray, List.set_cons_succ, List.set_cons_zero]))
        go_roundw
        case rel => exact ⟨k + 1, by omega, by go_num, rfl, rfl, HK.out⟩
        case measure => simp [intOf]; omega
      · obtain rfl : k = V.length := by omega
        rw [hLV]
        have hb := hb
        replace HB := Lib.hid (HB.out.trans (hb.mono HB.out.size))
        replace HS := Lib.hid (HS.out.keep hb)
        replace HI := Lib.hid (HI.out.keep hb)
        clear hb
        go_wp2_with fail
        refine (Least_any L _ wr HS.out (by omega) (A1, A2) 0 HP.out.least).mono ?_
        rintro e w7 ⟨rfl, hb⟩
        replace HB := Lib.hid (HB.out.trans (hb.mono HB.out.size))
        replace HS := Lib.hid (HS.out.keep hb)
        replace HI := Lib.hid (HI.out.keep hb)
        clear hb
        go_wp2_with fail
        refine Agg.calls_at fun w8 hw8 => ?_
        have hb : Below w7.heap.size w7 w8 := by rw [hw8.out]; repeat (first | exact Below.refl _ _ | refine Agg.bel_drew ?_ | refine Agg.bel_alloc ?_ _)
        replace HB := Lib.hid (HB.out.trans (hb.mono HB.out.size))
        replace HS := Lib.hid (HS.out.keep hb)
        replace HI := Lib.hid (HI.out.keep hb)
        clear hb
        have H13 : Hid (Blk w8 w7.heap.size 31 [.int .i64 A1, .int .i64 A2]) := by show Blk _ _ _ _; rw [hw8.out]; exact Blk.new w7 31 #[.int .i64 A1, .int .i64 A2]
        refine (Most_any L _ w8 HS.out (by omega) (M1, M2) 0 HP.out.most).mono ?_
        rintro e w9 ⟨rfl, hb⟩
        replace HB := Lib.hid (HB.out.trans (hb.mono HB.out.size))
        replace HS := Lib.hid (HS.out.keep hb)
        replace HI := Lib.hid (HI.out.keep hb)
        replace H13 := Lib.hid (H13.out.keep hb)
        clear hb
        go_wp2_with fail
        refine Agg.calls_at fun w10 hw10 => ?_
        have hb : Below w9.heap.size w9 w10 := by rw [hw10.out]; repeat (first | exact Below.refl _ _ | refine Agg.bel_drew ?_ | refine Agg.bel_alloc ?_ _)
        replace HB := Lib.hid (HB.out.trans (hb.mono HB.out.size))
        replace HS := Lib.hid (HS.out.keep hb)
        replace HI := Lib.hid (HI.out.keep hb)
        replace H13 := Lib.hid (H13.out.keep hb)
        clear hb
        have H15 : Hid (Blk w10 w9.heap.size 31 [.int .i64 M1, .int .i64 M2]) := by show Blk _ _ _ _; rw [hw10.out]; exact Blk.new w9 31 #[.int .i64 M1, .int .i64 M2]
        refine (Join_any L _ w10 HS.out (by omega) (J1, J2) 0 HP.out.join).mono ?_
        rintro e w11 ⟨rfl, hb⟩
        replace HB := Lib.hid (HB.out.trans (hb.mono HB.out.size))
        replace HS := Lib.hid (HS.out.keep hb)
        replace HI := Lib.hid (HI.out.keep hb)
        replace H13 := Lib.hid (H13.out.keep hb)
        replace H15 := Lib.hid (H15.out.keep hb)
        clear hb
        go_upto_region 17 with (fail)
        refine Agg.wp_at fun w12 hw12 => ?_
        have hb : Below w11.heap.size w11 w12 := by rw [hw12.out]; repeat (first | exact Below.refl _ _ | refine Agg.bel_drew ?_ | refine Agg.bel_alloc ?_ _)
        replace HB := Lib.hid (HB.out.trans (hb.mono HB.out.size))
        replace HS := Lib.hid (HS.out.keep hb)
        replace HI := Lib.hid (HI.out.keep hb)
        replace H13 := Lib.hid (H13.out.keep hb)
        replace H15 := Lib.hid (H15.out.keep hb)
        clear hb
        have H17 : Hid (Blk w12 w11.heap.size 31 [.int .i64 J1, .int .i64 J2]) := by show Blk _ _ _ _; rw [hw12.out]; exact Blk.new w11 31 #[.int .i64 J1, .int .i64 J2]
        have xH13_0 := H13.out.cell 0
        have xH13_1 := H13.out.cell 1
        have lH13 := H13.out.lt
        simp only [List.getElem?_cons_zero, List.getElem?_cons_succ] at xH13_0 xH13_1
        have xH15_0 := H15.out.cell 0
        have xH15_1 := H15.out.cell 1
        have lH15 := H15.out.lt
        simp only [List.getElem?_cons_zero, List.getElem?_cons_succ] at xH15_0 xH15_1
        go_wp2_with fail
        clear xH13_0 xH13_1 lH13 xH15_0 xH15_1 lH15
        refine (has_any A1 A2 _ w12 true HP.out.a).mono ?_
        rintro e w13 ⟨rfl, hb⟩
        replace HB := Lib.hid (HB.out.trans (hb.mono HB.out.size))
        replace HS := Lib.hid (HS.out.keep hb)
        replace HI := Lib.hid (HI.out.keep hb)
        replace H13 := Lib.hid (H13.out.keep hb)
        replace H15 := Lib.hid (H15.out.keep hb)
        replace H17 := Lib.hid (H17.out.keep hb)
        clear hb
        have xH13_0 := H13.out.cell 0
        have xH13_1 := H13.out.cell 1
        have lH13 := H13.out.lt
        simp only [List.getElem?_cons_zero, List.getElem?_cons_succ] at xH13_0 xH13_1
        have xH15_0 := H15.out.cell 0
        have xH15_1 := H15.out.cell 1
        have lH15 := H15.out.lt
        simp only [List.getElem?_cons_zero, List.getElem?_cons_succ] at xH15_0 xH15_1
        go_wp2_with fail
        clear xH13_0 xH13_1 lH13 xH15_0 xH15_1 lH15
        refine (has_any M1 M2 _ w13 true HP.out.m).mono ?_
        rintro e w14 ⟨rfl, hb⟩
        replace HB := Lib.hid (HB.out.trans (hb.mono HB.out.size))
        replace HS := Lib.hid (HS.out.keep hb)
        replace HI := Lib.hid (HI.out.keep hb)
        replace H13 := Lib.hid (H13.out.keep hb)
        replace H15 := Lib.hid (H15.out.keep hb)
        replace H17 := Lib.hid (H17.out.keep hb)
        clear hb
        go_wp2_with fail
        go_loopw [109, 19] (fun i a wr => ∃ k : Nat, k ≤ L.length ∧ i = .int .i64 k ∧ a = .int .u64 (widV L k) ∧ Below w14.heap.size w14 wr) (fun i _ _ => L.length - (intOf i).toNat)
        case atStart => exact ⟨0, by omega, rfl, rfl, Below.refl _ _⟩
        case round =>
          obtain ⟨k, hk, rfl, rfl, hb⟩ := hrel
          have HK : Hid (From w14 wr) := Lib.hid hb
          have hb := hb
          replace HB := Lib.hid (HB.out.trans (hb.mono HB.out.size))
          replace HS := Lib.hid (HS.out.keep hb)
          replace HI := Lib.hid (HI.out.keep hb)
          replace H13 := Lib.hid (H13.out.keep hb)
          replace H15 := Lib.hid (H15.out.keep hb)
          replace H17 := Lib.hid (H17.out.keep hb)
          clear hb
          by_cases hlt : k < L.length
          · obtain ⟨c1, c2⟩ := spans_cell HS.out hlt
            go_upto_region 23 with (fail)
            refine Agg.wp_at fun w21 hw21 => ?_
            have hb : Below wr.heap.size wr w21 := by rw [hw21.out]; repeat (first | exact Below.refl _ _ | refine Agg.bel_drew ?_ | refine Agg.bel_alloc ?_ _)
            replace HB := Lib.hid (HB.out.trans (hb.mono HB.out.size))
            replace HS := Lib.hid (HS.out.keep hb)
            replace HI := Lib.hid (HI.out.keep hb)
            replace H13 := Lib.hid (H13.out.keep hb)
            replace H15 := Lib.hid (H15.out.keep hb)
            replace H17 := Lib.hid (H17.out.keep hb)
            replace HK := Lib.hid (HK.out.keep hb)
            clear hb
            have H21 : Hid (Blk w21 wr.heap.size 31 [.int .i64 L[k].1, .int .i64 L[k].2]) := by show Blk _ _ _ _; rw [hw21.out]; exact Blk.new wr 31 #[.int .i64 L[k].1, .int .i64 L[k].2]
            clear hw21 c1 c2
            have hkV : k < V.length := by omega
            have hc : w21.cell? ⟨bb, ob + (k : Int).toNat * 1, none⟩ = some (.int .i64 V[k]) := by simpa using ints_cell HI.out hkV
            refine Agg.chainR 22 (by kernel_rfl) (by kernel_rfl) ?_
            simp only [List.take_succ_cons, List.take_zero, List.drop_succ_cons, List.drop_zero]
            refine Agg.chRowB 2 H21.out rfl (by decide +kernel) rfl rfl rfl rfl ?_
            refine Agg.chMove rfl rfl rfl rfl ?_
            refine Agg.chMove rfl rfl rfl rfl ?_
            refine Agg.chIA tiI (by omega) (by omega) rfl rfl rfl rfl rfl ?_
            refine Agg.chLoad rfl rfl rfl rfl (by decide +kernel) hc ?_
            refine Agg.chCall Try.func16 rfl (by kernel_rfl) rfl rfl rfl rfl (fun W _ => has_any _ _ _ W true (HP.out.own k hlt hkV)) ?_
            refine Agg.chNot rfl rfl rfl rfl ?_
            refine Agg.chMove rfl rfl rfl rfl ?_
            refine Agg.chRowB 2 H17.out rfl (by decide +kernel) rfl rfl rfl rfl ?_
            refine Agg.chMove rfl rfl rfl rfl ?_
            refine Agg.chMove rfl rfl rfl rfl ?_
            refine Agg.chIA tiI (by omega) (by omega) rfl rfl rfl rfl rfl ?_
            refine Agg.chLoad rfl rfl rfl rfl (by decide +kernel) hc ?_
            refine Agg.chCall Try.func16 rfl (by kernel_rfl) rfl rfl rfl rfl (fun W _ => has_any _ _ _ W true (HP.out.all k hlt hkV)) ?_
            refine Agg.chNot rfl rfl rfl rfl ?_
            refine Agg.chPick rfl rfl rfl rfl rfl ?_
            refine Agg.chMove rfl rfl rfl rfl ?_
            refine Agg.chRowB 2 H21.out rfl (by decide +kernel) rfl rfl rfl rfl ?_
            refine Agg.chRowB 2 H17.out rfl (by decide +kernel) rfl rfl rfl rfl ?_
            refine Agg.chCall Try.func22 rfl (by kernel_rfl) rfl rfl rfl rfl (fun W _ => within_any _ _ _ _ W true (HP.out.inn k hlt)) ?_
            refine Agg.chNot rfl rfl rfl rfl ?_
            refine Agg.chPick rfl rfl rfl rfl rfl ?_
            refine Agg.chEnd ?_
            intro vs w22 hb _
            refine Agg.wpNil ?_
            simp only [List.reverse, List.reverseAux, Agg.fill, List.set_cons_succ, List.set_cons_zero]
            replace HB := Lib.hid (HB.out.trans (hb.mono HB.out.size))
            replace HS := Lib.hid (HS.out.keep hb)
            replace HI := Lib.hid (HI.out.keep hb)
            replace H13 := Lib.hid (H13.out.keep hb)
            replace H15 := Lib.hid (H15.out.keep hb)
            replace H17 := Lib.hid (H17.out.keep hb)
            replace H21 := Lib.hid (H21.out.keep hb)
            replace HK := Lib.hid (HK.out.keep hb)
            clear hb
            clear hc
            have HII := HIL.out _ (List.getElem_mem hlt)
            have HWW := Lib.hid (widV_succ L k hlt).symm
            have xH21_0 := H21.out.cell 0
            have xH21_1 := H21.out.cell 1
            have lH21 := H21.out.lt
            simp only [List.getElem?_cons_zero, List.getElem?_cons_succ] at xH21_0 xH21_1
            go_wp2_with fail
            clear xH21_0 xH21_1 lH21
            refine (width_any _ _ w22 HII.1 HII.2).mono ?_
            rintro e w23 ⟨rfl, hb⟩
            replace HB := Lib.hid (HB.out.trans (hb.mono HB.out.size))
            replace HS := Lib.hid (HS.out.keep hb)
            replace HI := Lib.hid (HI.out.keep hb)
            replace H13 := Lib.hid (H13.out.keep hb)
            replace H15 := Lib.hid (H15.out.keep hb)
            replace H17 := Lib.hid (H17.out.keep hb)
            replace H21 := Lib.hid (H21.out.keep hb)
            replace HK := Lib.hid (HK.out.keep hb)
            clear hb
            clear HII
            go_wp2_with (refine Agg.max2 (.tmp 136) (.tmp 138) _ _ rfl rfl rfl rfl HWW.out ?_; simp only [Act.put, List.setIfInBounds_toArray, List.set_cons_succ, List.set_cons_zero])
            go_roundw
            case rel => exact ⟨k + 1, by omega, by go_num, rfl, HK.out⟩
            case measure => simp [intOf]; omega
          · obtain rfl : k = L.length := by omega
            have hwa := HP.out.wa
            have hwm := HP.out.wm
            have xH13_0 := H13.out.cell 0
            have xH13_1 := H13.out.cell 1
            have lH13 := H13.out.lt
            simp only [List.getElem?_cons_zero, List.getElem?_cons_succ] at xH13_0 xH13_1
            have xH15_0 := H15.out.cell 0
            have xH15_1 := H15.out.cell 1
            have lH15 := H15.out.lt
            simp only [List.getElem?_cons_zero, List.getElem?_cons_succ] at xH15_0 xH15_1
            have xH17_0 := H17.out.cell 0
            have xH17_1 := H17.out.cell 1
            have lH17 := H17.out.lt
            simp only [List.getElem?_cons_zero, List.getElem?_cons_succ] at xH17_0 xH17_1
            go_wp2_with fail
            clear xH13_0 xH13_1 lH13 xH15_0 xH15_1 lH15 xH17_0 xH17_1 lH17
            refine (width_any A1 A2 wr HAI.out.1 HAI.out.2).mono ?_
            rintro e w24 ⟨rfl, hb⟩
            replace HB := Lib.hid (HB.out.trans (hb.mono HB.out.size))
            replace HS := Lib.hid (HS.out.keep hb)
            replace HI := Lib.hid (HI.out.keep hb)
            replace H13 := Lib.hid (H13.out.keep hb)
            replace H15 := Lib.hid (H15.out.keep hb)
            replace H17 := Lib.hid (H17.out.keep hb)
            replace HK := Lib.hid (HK.out.keep hb)
            clear hb
            have xH13_0 := H13.out.cell 0
            have xH13_1 := H13.out.cell 1
            have lH13 := H13.out.lt
            simp only [List.getElem?_cons_zero, List.getElem?_cons_succ] at xH13_0 xH13_1
            have xH15_0 := H15.out.cell 0
            have xH15_1 := H15.out.cell 1
            have lH15 := H15.out.lt
            simp only [List.getElem?_cons_zero, List.getElem?_cons_succ] at xH15_0 xH15_1
            have xH17_0 := H17.out.cell 0
            have xH17_1 := H17.out.cell 1
            have lH17 := H17.out.lt
            simp only [List.getElem?_cons_zero, List.getElem?_cons_succ] at xH17_0 xH17_1
            go_wp2_with fail
            clear xH13_0 xH13_1 lH13 xH15_0 xH15_1 lH15 xH17_0 xH17_1 lH17
            refine (width_any M1 M2 w24 HMI.out.1 HMI.out.2).mono ?_
            rintro e w25 ⟨rfl, hb⟩
            replace HB := Lib.hid (HB.out.trans (hb.mono HB.out.size))
            replace HS := Lib.hid (HS.out.keep hb)
            replace HI := Lib.hid (HI.out.keep hb)
            replace H13 := Lib.hid (H13.out.keep hb)
            replace H15 := Lib.hid (H15.out.keep hb)
            replace H17 := Lib.hid (H17.out.keep hb)
            replace HK := Lib.hid (HK.out.keep hb)
            clear hb
            have xH13_0 := H13.out.cell 0
            have xH13_1 := H13.out.cell 1
            have lH13 := H13.out.lt
            simp only [List.getElem?_cons_zero, List.getElem?_cons_succ] at xH13_0 xH13_1
            have xH15_0 := H15.out.cell 0
            have xH15_1 := H15.out.cell 1
            have lH15 := H15.out.lt
            simp only [List.getElem?_cons_zero, List.getElem?_cons_succ] at xH15_0 xH15_1
            have xH17_0 := H17.out.cell 0
            have xH17_1 := H17.out.cell 1
            have lH17 := H17.out.lt
            simp only [List.getElem?_cons_zero, List.getElem?_cons_succ] at xH17_0 xH17_1
            go_wp2_with fail
            clear xH13_0 xH13_1 lH13 xH15_0 xH15_1 lH15 xH17_0 xH17_1 lH17
            refine (within_any _ _ _ _ w25 true HP.out.ia).mono ?_
            rintro e w26 ⟨rfl, hb⟩
            replace HB := Lib.hid (HB.out.trans (hb.mono HB.out.size))
            replace HS := Lib.hid (HS.out.keep hb)
            replace HI := Lib.hid (HI.out.keep hb)
            replace H13 := Lib.hid (H13.out.keep hb)
            replace H15 := Lib.hid (H15.out.keep hb)
            replace H17 := Lib.hid (H17.out.keep hb)
            replace HK := Lib.hid (HK.out.keep hb)
            clear hb
            have xH13_0 := H13.out.cell 0
            have xH13_1 := H13.out.cell 1
            have lH13 := H13.out.lt
            simp only [List.getElem?_cons_zero, List.getElem?_cons_succ] at xH13_0 xH13_1
            have xH15_0 := H15.out.cell 0
            have xH15_1 := H15.out.cell 1
            have lH15 := H15.out.lt
            simp only [List.getElem?_cons_zero, List.getElem?_cons_succ] at xH15_0 xH15_1
            have xH17_0 := H17.out.cell 0
            have xH17_1 := H17.out.cell 1
            have lH17 := H17.out.lt
            simp only [List.getElem?_cons_zero, List.getElem?_cons_succ] at xH17_0 xH17_1
            go_wp2_with fail
            clear xH13_0 xH13_1 lH13 xH15_0 xH15_1 lH15 xH17_0 xH17_1 lH17
            refine (within_any _ _ _ _ w26 true HP.out.im).mono ?_
            rintro e w27 ⟨rfl, hb⟩
            replace HB := Lib.hid (HB.out.trans (hb.mono HB.out.size))
            replace HS := Lib.hid (HS.out.keep hb)
            replace HI := Lib.hid (HI.out.keep hb)
            replace H13 := Lib.hid (H13.out.keep hb)
            replace H15 := Lib.hid (H15.out.keep hb)
            replace H17 := Lib.hid (H17.out.keep hb)
            replace HK := Lib.hid (HK.out.keep hb)
            clear hb
            go_wp2_with fail
            go_ret
            exact ⟨rfl, HB.out⟩
theorem SpanHolds_walk (v : Value) (f0 : Nat) (w : World) (h0 : Agg.Good Try.prog w f0 22 [v]) :
    Calls Try.prog 5 #[v] w fun e w' => e = .returned (.bool true) ∧ Below w.heap.size w w' := by
  obtain ⟨l, h1, h2⟩ := good_gs h0
  exact holds_any l v w h1 h2
end Go.Proofs.Ytcedalenjcbnmaa
