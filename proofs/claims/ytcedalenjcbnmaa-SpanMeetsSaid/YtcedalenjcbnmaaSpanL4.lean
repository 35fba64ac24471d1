/-
  THE WALK OF LAYER 4's STATEMENT SpanMeets.
-/
import Derived.Test.YtcedalenjcbnmaaSpanL3
namespace Go.Proofs.Ytcedalenjcbnmaa
open Go.ChangeShapes Go.WideShapes Go.ChangeAt Go.RowKit Agg

def allB (L : List Sp) (n : Int) : Bool := L.all fun s => hasB s n
theorem allB_succ (L : List Sp) (n : Int) (k : Nat) (h : k < L.length) : allB (L.take (k + 1)) n = (allB (L.take k) n && hasB L[k] n) := by
  unfold allB
  rw [List.take_succ_eq_append_getElem h, List.all_append]; simp
structure MeetsP (L : List Sp) (M : Sp) (e : Int) : Prop where
  meet : tog meetF L = (M, e)
  some : ∀ n, allB L n = true → e = 0
  has : e = 0 → ∀ n, hasB M n = allB L n
  inn : e = 0 → ∀ k (h : k < L.length), withinB M L[k] = true
theorem meets_plain (L : List Sp) (h0 : 0 < L.length) (hL : ∀ s ∈ L, s.1 ≤ s.2) : ∃ M e, MeetsP L M e ∧ (e = 0 ∨ e = 9 ∧ M = (0, 0)) := by
  obtain ⟨a1, ga, hga, a1e⟩ := mx_spec (fun s : Sp => s.1) L h0
  obtain ⟨a2, gb, hgb, a2e⟩ := mn_spec (fun s : Sp => s.2) L h0
  have hM := foldF_meetF L
  generalize mx (fun s : Sp => s.1) L = x1 at *
  generalize mn (fun s : Sp => s.2) L = x2 at *
  have hok : okAll L = true := by
    unfold okAll
    rw [List.all_eq_true]
    intro s hs
    simpa using hL s hs
  have hlen : ¬ L.length = 0 := by omega
  have hall : ∀ n, allB L n = true ↔ (x1 ≤ n ∧ n ≤ x2) := by
    intro n
    unfold allB
    rw [List.all_eq_true]
    constructor
    · intro h
      have e1 := h ga hga
      have e2 := h gb hgb
      simp only [hasB, Bool.and_eq_true, decide_eq_true_eq] at e1 e2
      omega
    · rintro ⟨e1, e2⟩ s hs
      have := a1 s hs
      have := a2 s hs
      simp only [hasB, Bool.and_eq_true, decide_eq_true_eq]
      omega
  by_cases hle : x1 ≤ x2
  · refine ⟨(x1, x2), 0, ⟨by rw [tog, if_pos hok, if_neg hlen, hM, if_pos hle], fun _ _ => rfl, fun _ n => ?_, fun _ k h => ?_⟩, .inl rfl⟩
    · rw [Bool.eq_iff_iff, hall]
      simp only [hasB, Bool.and_eq_true, decide_eq_true_eq]
    · have := a1 _ (List.getElem_mem h)
      have := a2 _ (List.getElem_mem h)
      have := hL _ (List.getElem_mem h)
      simp only [withinB, Bool.and_eq_true, decide_eq_true_eq]
      omega
  · refine ⟨(0, 0), 9, ⟨by rw [tog, if_pos hok, if_neg hlen, hM, if_neg hle], fun n h => ?_, fun e => (by omega), fun e => (by omega)⟩, .inr ⟨rfl, rfl⟩⟩
    have := (hall n).1 h
    omega
theorem iC_append (V W : List Int) : iC (V ++ W) = iC V ++ iC W := List.map_append
set_option maxHeartbeats 4000000 in
set_option maxRecDepth 100000 in
theorem meets_any (l : List Gs) (v : Value) (n : Int) (w : World) (hv : Gss w v l) (hl : ∀ g ∈ l, GsOk g) :
    Calls Try.prog 6 #[v, .int .i64 n] w fun e w' => e = .returned (.bool true) ∧ Below w.heap.size w w' := by
  have HV := Lib.hid hv
  have HL := Lib.hid hl
  clear hv hl
  have HB := Lib.hid (Below.refl w.heap.size w)
  go_enter Try.func6, Try.ntmps6
  go_wp2_with fail
  refine (wakes_any w).mono ?_
  rintro e w1 ⟨rfl, hb⟩
  replace HB := Lib.hid (HB.out.trans (hb.mono HB.out.size))
  replace HV := Lib.hid (HV.out.keep hb)
  clear hb
  go_wp2_with fail
  have hsz := HB.out.size
  refine (guesses_any l v w1 HV.out HL.out).mono ?_
  rintro e w2 ⟨⟨sa, sb, rfl, ho1, ho2⟩, hb⟩
  replace HB := Lib.hid (HB.out.trans (hb.mono HB.out.size))
  replace HV := Lib.hid (HV.out.keep hb)
  clear hb
  replace ho1 := own_mono ho1 hsz
  replace ho2 := own_mono ho2 hsz
  clear hsz
  have hS : Spans w2 sa ((gsel l).map (·.1)) := by unfold Spans; rw [List.length_map]; exact ownSl ho1
  have HN := Lib.hid (gsel_few l)
  rcases Nat.eq_zero_or_pos (gsel l).length with h0 | h0
  · have hg : gsel l = [] := List.eq_nil_of_length_eq_zero h0
    rw [hg] at hS
    obtain ⟨x, cap, rfl, _, hm⟩ := hS.shape
    simp only [List.map_nil, List.length_nil] at hm hS ⊢
    clear ho1 ho2
    have HS := Lib.hid hS
    clear hS
    go_wp2_with fail
    refine (Meet_any [] _ w2 HS.out (by simp) _ _ (tog_nil meetF)).mono ?_
    rintro e w3 ⟨rfl, hb⟩
    replace HB := Lib.hid (HB.out.trans (hb.mono HB.out.size))
    replace HS := Lib.hid (HS.out.keep hb)
    clear hb
    go_wp2_with fail
    go_ret
    exact ⟨rfl, bel_alloc HB.out _⟩
  · obtain ⟨L, hL⟩ : ∃ L, L = (gsel l).map (·.1) := ⟨_, rfl⟩
    obtain ⟨V, hV⟩ : ∃ V, V = (gsel l).map liesI := ⟨_, rfl⟩
    have hL0 : 0 < L.length := by rw [hL]; simpa using h0
    have hL20 : L.length ≤ 20 := by rw [hL]; simpa using HN.out
    have hV20 : V.length ≤ 20 := by rw [hV]; simpa using HN.out
    have hle : ∀ s ∈ L, s.1 ≤ s.2 := by
      rw [hL]; intro s hs
      obtain ⟨g, hg, rfl⟩ := List.mem_map.1 hs
      exact (gsel_mem l g hg).2
    rw [← hL] at hS ho1
    rw [← hV] at ho2
    rw [show (gsel l).length = L.length by rw [hL]; simp] at ho1
    rw [show (gsel l).length = V.length by rw [hV]; simp] at ho2
    obtain ⟨⟨M1, M2⟩, er, hp, her⟩ := meets_plain L hL0 hle
    have HO1 := Lib.hid ho1
    have HO2 := Lib.hid ho2
    have HS := Lib.hid hS
    have HP := Lib.hid hp
    clear ho1 ho2 hS hp hle hL hV h0 HN HL
    obtain ⟨xa, ca, rfl, _, hma⟩ := HS.out.shape
    obtain ⟨ba, oa, cap, hva, _, hca, _, _⟩ := HS.out.pos hL0
    simp only [Value.slice.injEq, true_and] at hva
    obtain ⟨rfl, rfl⟩ := hva
    unfold maxLen at *
    go_wp2_with fail
    refine (Meet_any L _ w2 HS.out (by omega) (M1, M2) er HP.out.meet).mono ?_
    rintro e w4 ⟨rfl, hb⟩
    replace HB := Lib.hid (HB.out.trans (hb.mono HB.out.size))
    replace HS := Lib.hid (HS.out.keep hb)
    replace HO1 := Lib.hid (HO1.out.keep hb)
    replace HO2 := Lib.hid (HO2.out.keep hb)
    clear hb
    have hO2 := HO2.out.lt
    have hap := elem_apart HO1.out HO2.out (by decide)
    go_upto_region 7 with (fail)
    refine Agg.wp_at fun w5 hw5 => ?_
    have hb : Below w4.heap.size w4 w5 := by rw [hw5.out]; repeat (first | exact Below.refl _ _ | refine Agg.bel_drew ?_ | refine Agg.bel_alloc ?_ _)
    replace HB := Lib.hid (HB.out.trans (hb.mono HB.out.size))
    replace HS := Lib.hid (HS.out.keep hb)
    replace HO1 := Lib.hid (HO1.out.keep hb)
    replace HO2 := Lib.hid (HO2.out.keep hb)
    clear hb
    have H7 : Hid (Blk w5 w4.heap.size 31 [.int .i64 M1, .int .i64 M2]) := by show Blk _ _ _ _; rw [hw5.out]; exact Blk.new w4 31 #[.int .i64 M1, .int .i64 M2]
    have hn7 : some w4.heap.size ≠ sb.ownBlock := fun e => by have := (hO2 _ e.symm).2; omega
    clear hw5 hO2
    refine Agg.heldBegin (S := fun z => Spans z (.slice (some ⟨ba, oa, none⟩) L.length ca) L) 14 (by kernel_rfl) rfl ?_
    have hb0 : Below w5.heap.size w5 w5.drew := bel_drew (Below.refl _ _)
    generalize w5.drew = z0 at hb0 ⊢
    have hb := hb0
    replace HB := Lib.hid (HB.out.trans (hb.mono HB.out.size))
    replace HS := Lib.hid (HS.out.keep hb)
    replace HO1 := Lib.hid (HO1.out.keep hb)
    replace HO2 := Lib.hid (HO2.out.keep hb)
    replace H7 := Lib.hid (H7.out.keep hb)
    clear hb
    have hb1 : Below z0.heap.size z0 (z0.alloc (.cells #[.int .i64 n, .int .i64 L[0].1, .int .i64 L[0].2] 2)) := bel_alloc (Below.refl _ _) _
    have hs1 := sl_new z0 #[.int .i64 n, .int .i64 L[0].1, .int .i64 L[0].2] 2 3 1 rfl (by decide)
    refine Agg.heldTake (i := 0) (by decide +kernel) rfl rfl rfl (v := sb) (fun z _ => Agg.run_move rfl rfl) HS.out ?_
    refine Agg.heldTake (i := 1) (by decide +kernel) rfl rfl rfl (v := .int .i64 n) (fun z _ => Agg.run_move rfl rfl) HS.out ?_
    refine Agg.heldTake (i := 2) (by decide +kernel) rfl rfl rfl (v := .slice (some ⟨ba, oa, none⟩) L.length ca) (fun z _ => Agg.run_move rfl rfl) HS.out ?_
    refine Agg.heldTake (i := 3) (by decide +kernel) rfl rfl rfl (v := .pointer (some ⟨ba, oa + 0 * 2, none⟩)) (fun z _ => by exact Agg.run_ia tiS (i := 0) (by omega) (by omega) rfl rfl rfl) HS.out ?_
    refine Agg.heldTake (i := 4) (by decide +kernel) rfl rfl rfl (v := .pointer (some ⟨ba, oa + 0 * 2, none⟩)) (fun z _ => by exact Agg.run_fa fo_Span_0 rfl rfl) HS.out ?_
    refine Agg.heldTake (i := 5) (by decide +kernel) rfl rfl rfl (v := .int .i64 L[0].1) (fun z hz => by exact Agg.run_ld (t := 2) (by decide +kernel) rfl rfl (spans_cell hz hL0).1) HS.out ?_
    refine Agg.heldTake (i := 6) (by decide +kernel) rfl rfl rfl (v := .slice (some ⟨ba, oa, none⟩) L.length ca) (fun z _ => Agg.run_move rfl rfl) HS.out ?_
    refine Agg.heldTake (i := 7) (by decide +kernel) rfl rfl rfl (v := .pointer (some ⟨ba, oa + 0 * 2, none⟩)) (fun z _ => by exact Agg.run_ia tiS (i := 0) (by omega) (by omega) rfl rfl rfl) HS.out ?_
    refine Agg.heldTake (i := 8) (by decide +kernel) rfl rfl rfl (v := .pointer (some ⟨ba, oa + 0 * 2 + 1, none⟩)) (fun z _ => by exact Agg.run_fa fo_Span_1 rfl rfl) HS.out ?_
    refine Agg.heldTake (i := 9) (by decide +kernel) rfl rfl rfl (v := .int .i64 L[0].2) (fun z hz => by exact Agg.run_ld (t := 2) (by decide +kernel) rfl rfl (spans_cell hz hL0).2) HS.out ?_
    refine Agg.heldTake (i := 13) (by decide +kernel) rfl rfl rfl (v := .int .i64 0) (fun z _ => Agg.run_move rfl rfl) HS.out ?_
    refine Agg.heldOne (i := 10) (by decide +kernel) rfl rfl rfl (Agg.run_buildSl (e := 2) #[.int .i64 n, .int .i64 L[0].1, .int .i64 L[0].2] rfl (by kernel_rfl)) (HS.out.keep hb1) ?_
    generalize z0.alloc (.cells #[.int .i64 n, .int .i64 L[0].1, .int .i64 L[0].2] 2) = z1 at hb1 hs1 ⊢
    have hb := hb1
    replace HB := Lib.hid (HB.out.trans (hb.mono HB.out.size))
    replace HS := Lib.hid (HS.out.keep hb)
    replace HO1 := Lib.hid (HO1.out.keep hb)
    replace HO2 := Lib.hid (HO2.out.keep hb)
    replace H7 := Lib.hid (H7.out.keep hb)
    clear hb
    refine Agg.heldAppend tiI (.tmp 33) (.tmp 43) (i := 11) (by decide +kernel) rfl rfl rfl rfl w.heap.size (v := sb) rfl HO2.out rfl hs1 (by simp [Value.oneCell']) (by unfold maxLen; omega) (by omega) HB.out.size (fun sn z2 ho2 hg2 hat2 => ?_)
    obtain ⟨N, hN⟩ : ∃ N, N = V ++ [n, L[0].1, L[0].2] := ⟨_, rfl⟩
    have hNl : N.length = V.length + 3 := by rw [hN]; simp
    have hNI : SlR z2 sn 1 N.length (iC N) := by
      rw [hNl, hN, iC_append]; exact ownSl ho2
    have hS2 : Spans z2 (.slice (some ⟨ba, oa, none⟩) L.length ca) L := ownSl (HO1.out.kept hg2 hap)
    have h72 := (hg2.block _ H7.out.lt hn7).trans H7.out
    replace HB := Lib.hid (HB.out.trans (grown_below hg2 HB.out.size (own_block HO2.out)))
    replace HS := Lib.hid hS2
    replace H7 : Hid (Blk z2 w4.heap.size 31 [.int .i64 M1, .int .i64 M2]) := Lib.hid h72
    have HNI := Lib.hid hNI
    obtain ⟨xn, cn, rfl, _, hmn⟩ := hNI.shape
    unfold maxLen at hmn
    have hN3 : 3 ≤ N.length := by omega
    have hN30 : N.length ≤ 30 := by omega
    clear hNI hS2 h72 ho2 hg2 hat2 HO1 HO2 hs1 hb1 hb0 hn7 hap hN hNl hV20
    refine ⟨HS.out, ?_⟩
    refine Agg.heldOne (i := 12) (v := .int .i64 N.length) (by decide +kernel) rfl rfl rfl (Agg.run_len Try.underlying25 rfl rfl) HS.out ?_
    refine Agg.heldDone (by decide +kernel) ?_
    have e0 : ((L.length : Int) == 0) = false := by rw [beq_eq_false_iff_ne]; omega
    simp only [List.set_cons_succ, List.set_cons_zero, Nat.zero_mul, Nat.add_zero, e0]
    clear e0
    go_wp2_with fail
    go_loopw [46] (fun i wr => ∃ k : Nat, k ≤ N.length ∧ i = .int .i64 k ∧ Below z2.heap.size z2 wr) (fun i _ => N.length - (intOf i).toNat)
    case atStart => exact ⟨0, by omega, rfl, Below.refl _ _⟩
    case round =>
      obtain ⟨k, hk, rfl, hb⟩ := hrel
      have HK : Hid (From z2 wr) := Lib.hid hb
      have hb := hb
      replace HB := Lib.hid (HB.out.trans (hb.mono HB.out.size))
      replace HS := Lib.hid (HS.out.keep hb)
      replace H7 := Lib.hid (H7.out.keep hb)
      replace HNI := Lib.hid (HNI.out.keep hb)
      clear hb
      obtain ⟨wo, hwo⟩ : ∃ x, x = wr := ⟨_, rfl⟩
      subst hwo
      by_cases hlt : k < N.length
      · obtain ⟨bn, on, cn', hvn, _⟩ := HNI.out.pos (by decide) (by omega)
        simp only [Value.slice.injEq, true_and] at hvn
        obtain ⟨rfl, rfl⟩ := hvn
        have hc := ints_cell HNI.out hlt
        obtain ⟨m, hm⟩ : ∃ m, m = N[k] := ⟨_, rfl⟩
        rw [← hm] at hc
        clear hm
        have hd : decide ((k : Int) < (N.length : Int)) = true := by rw [decide_eq_true_eq]; omega
        go_wp2_with fail
        clear hc hd
        go_loopw [52, 11] (fun i b wr => ∃ j : Nat, j ≤ L.length ∧ i = .int .i64 j ∧ b = .bool (allB (L.take j) m) ∧ Below wo.heap.size wo wr) (fun i _ _ => L.length - (intOf i).toNat)
        case atStart => exact ⟨0, by omega, rfl, rfl, Below.refl _ _⟩
        case round =>
          obtain ⟨j, hj, rfl, rfl, hb⟩ := hrel
          have HJ : Hid (From wo wr) := Lib.hid hb
          have hb := hb
          replace HB := Lib.hid (HB.out.trans (hb.mono HB.out.size))
          replace HS := Lib.hid (HS.out.keep hb)
          replace H7 := Lib.hid (H7.out.keep hb)
          replace HNI := Lib.hid (HNI.out.keep hb)
          replace HK := Lib.hid (HK.out.keep hb)
          clear hb
          by_cases hlt2 : j < L.length
          · obtain ⟨c1, c2⟩ := spans_cell HS.out hlt2
            have HA := Lib.hid (allB_succ L m j hlt2)
            cases hq : allB (L.take j) m
            · go_wp2_with fail
              go_roundw
              case rel => exact ⟨j + 1, by omega, by go_num, by rw [HA.out, hq]; rfl, bel_alloc HJ.out _⟩
              case measure => simp [intOf]; omega
            · have _h := HA
              go_wp2_with fail
              refine Agg.calls_at fun w21 hw21 => ?_
              have hb : Below wr.heap.size wr w21 := by rw [hw21.out]; repeat (first | exact Below.refl _ _ | refine Agg.bel_drew ?_ | refine Agg.bel_alloc ?_ _)
              replace HB := Lib.hid (HB.out.trans (hb.mono HB.out.size))
              replace HS := Lib.hid (HS.out.keep hb)
              replace H7 := Lib.hid (H7.out.keep hb)
              replace HNI := Lib.hid (HNI.out.keep hb)
              replace HK := Lib.hid (HK.out.keep hb)
              replace HJ := Lib.hid (HJ.out.keep hb)
              clear hb
              refine (has_any _ _ m w21 _ rfl).mono ?_
              rintro e w22 ⟨rfl, hb⟩
              replace HB := Lib.hid (HB.out.trans (hb.mono HB.out.size))
              replace HS := Lib.hid (HS.out.keep hb)
              replace H7 := Lib.hid (H7.out.keep hb)
              replace HNI := Lib.hid (HNI.out.keep hb)
              replace HK := Lib.hid (HK.out.keep hb)
              replace HJ := Lib.hid (HJ.out.keep hb)
              clear hb
              go_wp2_with fail
              go_roundw
              case rel => exact ⟨j + 1, by omega, by go_num, by rw [HA.out, hq]; rfl, HJ.out⟩
              case measure => simp [intOf]; omega
          · obtain rfl : j = L.length := by omega
            rw [List.take_length]
            rcases her with rfl | ⟨rfl, hM⟩
            · have hh := HP.out.has rfl m
              cases hq : allB L m
              · rw [hq] at hh
                have xH7_0 := H7.out.cell 0
                have xH7_1 := H7.out.cell 1
                have lH7 := H7.out.lt
                simp only [List.getElem?_cons_zero, List.getElem?_cons_succ] at xH7_0 xH7_1
                go_wp2_with fail
                clear xH7_0 xH7_1 lH7
                refine (has_any M1 M2 m wr false hh).mono ?_
                rintro e w23 ⟨rfl, hb⟩
                replace HB := Lib.hid (HB.out.trans (hb.mono HB.out.size))
                replace HS := Lib.hid (HS.out.keep hb)
                replace H7 := Lib.hid (H7.out.keep hb)
                replace HNI := Lib.hid (HNI.out.keep hb)
                replace HK := Lib.hid (HK.out.keep hb)
                replace HJ := Lib.hid (HJ.out.keep hb)
                clear hb
                go_wp2_with fail
                go_roundw
                case rel => exact ⟨k + 1, by omega, by go_num, HK.out⟩
                case measure => simp [intOf]; omega
              · rw [hq] at hh
                have xH7_0 := H7.out.cell 0
                have xH7_1 := H7.out.cell 1
                have lH7 := H7.out.lt
                simp only [List.getElem?_cons_zero, List.getElem?_cons_succ] at xH7_0 xH7_1
                go_wp2_with fail
                clear xH7_0 xH7_1 lH7
                refine (has_any M1 M2 m wr true hh).mono ?_
                rintro e w24 ⟨rfl, hb⟩
                replace HB := Lib.hid (HB.out.trans (hb.mono HB.out.size))
                replace HS := Lib.hid (HS.out.keep hb)
                replace H7 := Lib.hid (H7.out.keep hb)
                replace HNI := Lib.hid (HNI.out.keep hb)
                replace HK := Lib.hid (HK.out.keep hb)
                replace HJ := Lib.hid (HJ.out.keep hb)
                clear hb
                go_wp2_with fail
                go_roundw
                case rel => exact ⟨k + 1, by omega, by go_num, HK.out⟩
                case measure => simp [intOf]; omega
            · have hq : allB L m = false := by
                cases h : allB L m
                · rfl
                · have := HP.out.some m h; omega
              rw [hq]
              go_wp2_with fail
              go_roundw
              case rel => exact ⟨k + 1, by omega, by go_num, HK.out⟩
              case measure => simp [intOf]; omega
      · obtain rfl : k = N.length := by omega
        rcases her with rfl | ⟨rfl, hM⟩
        · go_wp2_with fail
          go_loopw [91] (fun i wr => ∃ j : Nat, j ≤ L.length ∧ i = .int .i64 j ∧ Below wo.heap.size wo wr) (fun i _ => L.length - (intOf i).toNat)
          case atStart => exact ⟨0, by omega, rfl, Below.refl _ _⟩
          case round =>
            obtain ⟨j, hj, rfl, hb⟩ := hrel
            have HJ : Hid (From wo wr) := Lib.hid hb
            have hb := hb
            replace HB := Lib.hid (HB.out.trans (hb.mono HB.out.size))
            replace HS := Lib.hid (HS.out.keep hb)
            replace H7 := Lib.hid (H7.out.keep hb)
            replace HNI := Lib.hid (HNI.out.keep hb)
            replace HK := Lib.hid (HK.out.keep hb)
            clear hb
            by_cases hlt2 : j < L.length
            · obtain ⟨c1, c2⟩ := spans_cell HS.out hlt2
              have hw := HP.out.inn rfl j hlt2
              have xH7_0 := H7.out.cell 0
              have xH7_1 := H7.out.cell 1
              have lH7 := H7.out.lt
              simp only [List.getElem?_cons_zero, List.getElem?_cons_succ] at xH7_0 xH7_1
              go_wp2_with fail
              refine Agg.calls_at fun w25 hw25 => ?_
              have hb : Below wr.heap.size wr w25 := by rw [hw25.out]; repeat (first | exact Below.refl _ _ | refine Agg.bel_drew ?_ | refine Agg.bel_alloc ?_ _)
              replace HB := Lib.hid (HB.out.trans (hb.mono HB.out.size))
              replace HS := Lib.hid (HS.out.keep hb)
              replace H7 := Lib.hid (H7.out.keep hb)
              replace HNI := Lib.hid (HNI.out.keep hb)
              replace HK := Lib.hid (HK.out.keep hb)
              replace HJ := Lib.hid (HJ.out.keep hb)
              clear hb
              clear xH7_0 xH7_1 lH7
              refine (within_any _ _ _ _ w25 true hw).mono ?_
              rintro e w26 ⟨rfl, hb⟩
              replace HB := Lib.hid (HB.out.trans (hb.mono HB.out.size))
              replace HS := Lib.hid (HS.out.keep hb)
              replace H7 := Lib.hid (H7.out.keep hb)
              replace HNI := Lib.hid (HNI.out.keep hb)
              replace HK := Lib.hid (HK.out.keep hb)
              replace HJ := Lib.hid (HJ.out.keep hb)
              clear hb
              go_wp2_with fail
              go_roundw
              case rel => exact ⟨j + 1, by omega, by go_num, HJ.out⟩
              case measure => simp [intOf]; omega
            · obtain rfl : j = L.length := by omega
              go_wp2_with fail
              go_ret
              exact ⟨rfl, HB.out⟩
        · simp only [Prod.mk.injEq] at hM
          obtain ⟨rfl, rfl⟩ := hM
          have xH7_0 := H7.out.cell 0
          have xH7_1 := H7.out.cell 1
          have lH7 := H7.out.lt
          simp only [List.getElem?_cons_zero, List.getElem?_cons_succ] at xH7_0 xH7_1
          go_wp2_with fail
          go_ret
          exact ⟨rfl, HB.out⟩
theorem SpanMeets_walk (v : Value) (f0 : Nat) (n : Int) (w : World) (h0 : Agg.Good Try.prog w f0 22 [v]) (_ : (Lit.int .i64 n).wf = true) :
    Calls Try.prog 6 #[v, .int .i64 n] w fun e w' => e = .returned (.bool true) ∧ Below w.heap.size w w' := by
  obtain ⟨l, h1, h2⟩ := good_gs h0
  exact meets_any l v n w h1 h2
end Go.Proofs.Ytcedalenjcbnmaa
