/-
  THE WALK OF LAYER 7's STATEMENT RunsCuts.
-/
import Derived.Test.YtpligbfajnjklaaRuY
namespace Go.Proofs.Ytpligbfajnjklaa
open Go.ChangeShapes Go.WideShapes Go.ChangeAt Go.RowKit Agg Pg Ru

theorem OfR.keep {base : Nat} {T : List Int} {q : Int} {u : Value} {w w' : World} (h : OfR base T q u w) (hb : Below w.heap.size w w') : OfR base T q u w' := by
  unfold OfR at h ⊢
  split
  · rw [if_pos (by assumption)] at h; exact own_keep h hb
  · rw [if_neg (by assumption)] at h; exact h
theorem PcR.keep {P : List Rn} {q : Int} {u : Value} {w w' : World} (h : PcR P q u w) (hb : Below w.heap.size w w') : PcR P q u w' := by
  unfold PcR at h ⊢
  split
  · rw [if_pos (by assumption)] at h; exact SlR.keep h hb
  · rw [if_neg (by assumption)] at h; exact h
theorem OfR.shape {base : Nat} {T : List Int} {q : Int} {u : Value} {w : World} (h : OfR base T q u w) : ∃ x n c, u = .slice x n c := by
  unfold OfR at h
  split at h
  · obtain ⟨x, c, h1, _⟩ := (ownSl h).shape; exact ⟨_, _, _, h1⟩
  · exact ⟨_, _, _, h⟩
theorem PcR.shape {P : List Rn} {q : Int} {u : Value} {w : World} (h : PcR P q u w) : ∃ x n c, u = .slice x n c := by
  unfold PcR at h
  split at h
  · obtain ⟨x, c, h1, _⟩ := SlR.shape h; exact ⟨_, _, _, h1⟩
  · exact ⟨_, _, _, h⟩
theorem tms_sub {w : World} {b o cap : Nat} {T : List Int} (h : Tms w (.slice (some ⟨b, o, none⟩) T.length cap) T) {i j : Nat} (hij : i < j) (hj : j ≤ T.length) : Tms w (.slice (some ⟨b, o + i * 1, none⟩) (j - i) (cap - i)) (sl T i j) := by
  have hl : (sl T i j).length = j - i := by unfold sl; rw [List.length_drop, List.length_take]; simp; omega
  obtain ⟨_, _, e, hc1, hc2⟩ := SlR.shape h
  cases e
  refine ⟨by simp [tC], .inr ⟨_, cap - i, by rw [hl], by rw [hl]; omega, by omega, fun k u hu => ?_⟩⟩
  have hk : k < j - i := by have := (List.getElem?_eq_some_iff.1 hu).1; simp [tC] at this; omega
  have e2 : (sl T i j)[k]? = T[i + k]? := by
    unfold sl
    rw [List.getElem?_drop, List.getElem?_take]
    simp only [Int.toNat_natCast]
    rw [if_pos (by omega)]
  have h3 := tms_at h (k := i + k) (by omega)
  rw [Int.toNat_natCast, Nat.mul_one] at h3
  rw [add_none, Nat.mul_one, Nat.add_assoc, h3]
  simp only [tC, List.getElem?_map, e2, List.getElem?_eq_getElem (show i + k < T.length by omega), Option.map_some] at hu
  exact hu
theorem rw_of {T : List Int} (h : risingB T = true) : ∀ r ∈ ofR T, Rw r := ofR_rw h
theorem pieces_rw {l : List Rn} {i j : Int} (h : ∀ r ∈ piecesR l i j, sized r = true) : ∀ r ∈ piecesR l i j, Rw r := fun r hr => sized_rw (h r hr)
set_option maxHeartbeats 4000000 in
set_option maxRecDepth 100000 in
theorem cuts_walk (l m : List Rn) (v v2 : Value) (i j : Int) (w : World) (hl : Rus w v l) (hw : ∀ r ∈ l, Rw r) (hm : Rus w v2 m) (hw2 : ∀ r ∈ m, Rw r) :
    Calls Try.prog 9 #[v, v2, .int .i64 i, .int .i64 j] w fun e w' => e = .returned (.bool true) ∧ Below w.heap.size w w' := by
  obtain ⟨x, cap, rfl, _⟩ := SlR.shape hl
  obtain ⟨y, cap2, rfl, _⟩ := SlR.shape hm
  have HL := Lib.hid hl
  have HM := Lib.hid hm
  have HW := Lib.hid (cut300_rw hw)
  have HW2 := Lib.hid (cut300_rw hw2)
  clear hl hw hm hw2
  have HB := Lib.hid (Below.refl w.heap.size w)
  go_enter Try.func9, Try.ntmps9
  go_wp2_with fail
  refine (wakes_any w).mono ?_
  rintro e w1 ⟨rfl, hb⟩
  replace HB := Lib.hid (HB.out.trans (hb.mono HB.out.size))
  replace HL := Lib.hid (HL.out.keep hb)
  replace HM := Lib.hid (HM.out.keep hb)
  clear hb
  go_wp2_with fail
  refine (own_any l _ w1 HL.out).mono ?_
  rintro e w2 ⟨u, rfl, hu, hb⟩
  replace HB := Lib.hid (HB.out.trans (hb.mono HB.out.size))
  replace HL := Lib.hid (HL.out.keep hb)
  replace HM := Lib.hid (HM.out.keep hb)
  clear hb
  have HU : Hid (Rus w2 u (cut300 l)) := Lib.hid (own_rus hu)
  clear hu
  obtain ⟨ux, uc, rfl, _, _⟩ := SlR.shape HU.out
  go_wp2_with fail
  refine (own_any m _ w2 HM.out).mono ?_
  rintro e w3 ⟨u2, rfl, hu2, hb⟩
  replace HB := Lib.hid (HB.out.trans (hb.mono HB.out.size))
  replace HM := Lib.hid (HM.out.keep hb)
  replace HU := Lib.hid (HU.out.keep hb)
  clear hb
  have HV : Hid (Rus w3 u2 (cut300 m)) := Lib.hid (own_rus hu2)
  clear hu2
  obtain ⟨vx, vc, rfl, _, _⟩ := SlR.shape HV.out
  generalize cut300 l = L at *
  generalize cut300 m = M at *
  obtain ⟨q, hq⟩ : ∃ q, placedP L i j = q := ⟨_, rfl⟩
  obtain ⟨g, hg⟩ : ∃ g, joinP L M = g := ⟨_, rfl⟩
  have HQ := Lib.hid hq
  have HG := Lib.hid hg
  clear hq hg HL HM
  go_wp2_with fail
  refine (cut_any L _ i j w3 HU.out HW.out q HQ.out).mono ?_
  rintro e w4 ⟨c1, rfl, hc1, hb⟩
  replace HB := Lib.hid (HB.out.trans (hb.mono HB.out.size))
  replace HU := Lib.hid (HU.out.keep hb)
  replace HV := Lib.hid (HV.out.keep hb)
  clear hb
  obtain ⟨c1x, c1n, c1c, rfl⟩ := OfR.shape hc1
  have HC1 := Lib.hid hc1
  clear hc1
  go_wp2_with fail
  refine (piecesX_any L _ i j w4 HU.out HW.out q HQ.out).mono ?_
  rintro e w5 ⟨c2, rfl, hc2, hb⟩
  replace HB := Lib.hid (HB.out.trans (hb.mono HB.out.size))
  replace HU := Lib.hid (HU.out.keep hb)
  replace HV := Lib.hid (HV.out.keep hb)
  replace HC1 := Lib.hid (HC1.out.keep hb)
  clear hb
  obtain ⟨c2x, c2n, c2c, rfl⟩ := PcR.shape hc2
  have HC2 := Lib.hid hc2
  clear hc2
  go_wp2_with fail
  refine (join_any L M _ _ w5 HU.out HW.out HV.out HW2.out g HG.out).mono ?_
  rintro e w6 ⟨c3, rfl, hc3, hb⟩
  replace HB := Lib.hid (HB.out.trans (hb.mono HB.out.size))
  replace HU := Lib.hid (HU.out.keep hb)
  replace HV := Lib.hid (HV.out.keep hb)
  replace HC1 := Lib.hid (HC1.out.keep hb)
  replace HC2 := Lib.hid (HC2.out.keep hb)
  clear hb
  obtain ⟨c3x, c3n, c3c, rfl⟩ := OfR.shape hc3
  have HC3 := Lib.hid hc3
  clear hc3
  go_wp2_with fail
  refine (rRight_any L _ w6 HU.out HW.out).mono ?_
  rintro e w7 ⟨rfl, hb⟩
  replace HB := Lib.hid (HB.out.trans (hb.mono HB.out.size))
  replace HU := Lib.hid (HU.out.keep hb)
  replace HV := Lib.hid (HV.out.keep hb)
  replace HC1 := Lib.hid (HC1.out.keep hb)
  replace HC2 := Lib.hid (HC2.out.keep hb)
  replace HC3 := Lib.hid (HC3.out.keep hb)
  clear hb
  go_wp2_with fail
  refine (rRight_any M _ w7 HV.out HW2.out).mono ?_
  rintro e w8 ⟨rfl, hb⟩
  replace HB := Lib.hid (HB.out.trans (hb.mono HB.out.size))
  replace HU := Lib.hid (HU.out.keep hb)
  replace HV := Lib.hid (HV.out.keep hb)
  replace HC1 := Lib.hid (HC1.out.keep hb)
  replace HC2 := Lib.hid (HC2.out.keep hb)
  replace HC3 := Lib.hid (HC3.out.keep hb)
  clear hb
  obtain ⟨rb, hrb⟩ : ∃ b, risesB L = b := ⟨_, rfl⟩
  obtain ⟨rm, hrm⟩ : ∃ b, risesB M = b := ⟨_, rfl⟩
  have HRB := Lib.hid hrb
  have HRM := Lib.hid hrm
  have hq := HQ.out
  have hg := HG.out
  unfold placedP at hq
  unfold joinP at hg
  rw [hrb] at hq
  rw [hrb, hrm] at hg
  rw [hrb, hrm]
  clear hrb hrm
  cases rb
  · rw [if_neg (by decide)] at hq
    rw [if_neg (by simp)] at hg
    subst hq
    subst hg
    have d1 := (OfR.no (by decide)).1 HC1.out
    have d2 := (PcR.no (by decide)).1 HC2.out
    have d3 := (OfR.no (by decide)).1 HC3.out
    simp only [Value.slice.injEq] at d1 d2 d3
    obtain ⟨rfl, rfl, rfl⟩ := d1
    obtain ⟨rfl, rfl, rfl⟩ := d2
    obtain ⟨rfl, rfl, rfl⟩ := d3
    go_wp2_with fail
    go_ret
    exact ⟨rfl, HB.out⟩
  · rw [if_pos rfl] at hq
    have HQ2 := Lib.hid hq
    have HG2 := Lib.hid hg
    clear hq hg
    have htd := timesD_rises HRB.out
    have hml := times_len HRB.out
    have HTR := Lib.hid (times_rising HRB.out)
    go_wp2_with fail
    refine (rTimes_any L _ w8 HU.out HW.out).mono ?_
    rintro e w9 ⟨t1, rfl, ht1, hb⟩
    replace HB := Lib.hid (HB.out.trans (hb.mono HB.out.size))
    replace HU := Lib.hid (HU.out.keep hb)
    replace HV := Lib.hid (HV.out.keep hb)
    replace HC1 := Lib.hid (HC1.out.keep hb)
    replace HC2 := Lib.hid (HC2.out.keep hb)
    replace HC3 := Lib.hid (HC3.out.keep hb)
    clear hb
    rw [htd] at ht1
    have HT1 := Lib.hid (own_tms ht1)
    obtain ⟨tx, tc, rfl, _, _⟩ := SlR.shape HT1.out
    clear ht1
    go_wp2_with fail
    refine (rTimes_any M _ w9 HV.out HW2.out).mono ?_
    rintro e w10 ⟨t2, rfl, ht2, hb⟩
    replace HB := Lib.hid (HB.out.trans (hb.mono HB.out.size))
    replace HU := Lib.hid (HU.out.keep hb)
    replace HV := Lib.hid (HV.out.keep hb)
    replace HC1 := Lib.hid (HC1.out.keep hb)
    replace HC2 := Lib.hid (HC2.out.keep hb)
    replace HC3 := Lib.hid (HC3.out.keep hb)
    replace HT1 := Lib.hid (HT1.out.keep hb)
    clear hb
    have HT2 := Lib.hid (own_tms ht2)
    obtain ⟨tx2, tc2, rfl, _, _⟩ := SlR.shape HT2.out
    clear ht2
    obtain ⟨T, hT⟩ : ∃ T, times L = T := ⟨_, rfl⟩
    obtain ⟨T2, hT2⟩ : ∃ T, timesD M = T := ⟨_, rfl⟩
    have HTE := Lib.hid hT
    have HTE2 := Lib.hid hT2
    rw [hT] at HT1 HTR HC1 HC3 HG2 hml ⊢
    rw [hT2] at HT2 ⊢
    clear hT hT2 htd
    obtain ⟨ml, hml0⟩ : ∃ z, many L = z := ⟨_, rfl⟩
    rw [hml0] at hml HQ2
    obtain ⟨hml1, hml2⟩ := hml
    subst hml1
    have HLM := Lib.hid hml0
    clear hml0
    have HB0 := HB
    obtain ⟨wK, hwK⟩ : ∃ x, x = w10 := ⟨_, rfl⟩
    subst hwK
    go_upto_region 11 with (fail)
    go_cut [95] from 83 to 95 (fun s wx => s = .bool (decide (i < 0 ∨ j ≤ i ∨ (T.length : Int) < j)) ∧ wx = wK)
    case first =>
      by_cases h1 : i < 0
      · have e : decide (i < 0 ∨ j ≤ i ∨ (T.length : Int) < j) = true := by simp [h1]
        have E := Lib.hid e
        clear e
        go_wp2_with fail
        go_meet
        exact ⟨by rw [E.out], rfl⟩
      · by_cases h2 : i ≥ j
        · have e : decide (i < 0 ∨ j ≤ i ∨ (T.length : Int) < j) = true := by simp; omega
          have E := Lib.hid e
          clear e
          go_wp2_with fail
          go_meet
          exact ⟨by rw [E.out], rfl⟩
        · by_cases h3 : j > (T.length : Int)
          · have e : decide (i < 0 ∨ j ≤ i ∨ (T.length : Int) < j) = true := by simp; omega
            have E := Lib.hid e
            clear e
            go_wp2_with fail
            go_meet
            exact ⟨by rw [E.out], rfl⟩
          · have e : decide (i < 0 ∨ j ≤ i ∨ (T.length : Int) < j) = false := by simp; omega
            have E := Lib.hid e
            clear e
            go_wp2_with fail
            go_meet
            exact ⟨by rw [E.out], rfl⟩
    case rest =>
      obtain ⟨hs95, hwx⟩ := hcut
      replace hwx := hwx.symm
      subst hwx
      have hqz := HQ2.out
      obtain ⟨z, hz⟩ : ∃ z, decide (i < 0 ∨ j ≤ i ∨ (T.length : Int) < j) = z := ⟨_, rfl⟩
      rw [hz] at hs95
      subst hs95
      have HZ := Lib.hid hz
      clear hz hqz
      go_upto_if 95 with (fail)
      go_cut [] from 96 to 136 (fun wx => Below wK.heap.size wK wx)
      case first =>
        cases z
        · have hc : ¬ (i < 0 ∨ j ≤ i ∨ (T.length : Int) < j) := of_decide_eq_false HZ.out
          have hq := HQ2.out
          rw [if_neg hc] at hq
          subst hq
          have o1 := OfR.yes.1 HC1.out
          have o2 := PcR.yes.1 HC2.out
          obtain ⟨f1, f2, f3, f4, f5, f6, f7, f8⟩ := cut_facts HQ.out
          obtain ⟨ni, rfl⟩ : ∃ n : Nat, i = (n : Int) := ⟨i.toNat, by omega⟩
          obtain ⟨nj, rfl⟩ : ∃ n : Nat, j = (n : Int) := ⟨j.toNat, by omega⟩
          have hrs := rising_sl HTR.out (i := ni) (j := nj) (by omega) (by omega) (by omega)
          have HRS := Lib.hid hrs.1
          have HPW := Lib.hid (pieces_rw f8)
          have hij : ni < nj := by omega
          have hjt : nj ≤ T.length := by omega
          clear f1 f4 f5 f6 f7 f8 hrs hc HQ2 HQ
          have HO1 := Lib.hid (own_rus o1)
          have HO2 := Lib.hid o2
          obtain ⟨_, _, e1, _, _⟩ := SlR.shape HO1.out
          obtain ⟨_, _, e2, _, _⟩ := SlR.shape HO2.out
          simp only [Value.slice.injEq] at e1 e2
          obtain ⟨rfl, rfl, rfl⟩ := e1
          obtain ⟨rfl, rfl, rfl⟩ := e2
          obtain ⟨bt, ot, cap', hve, hct, hcm, _, _⟩ := SlR.pos HT1.out (by decide) (by omega)
          simp only [Value.slice.injEq, true_and] at hve
          obtain ⟨rfl, rfl⟩ := hve
          have HTS := Lib.hid (tms_sub HT1.out hij hjt)
          have hslc := fun W => run_slice_fromto ti22 bt ot T.length tc ni nj (by omega) (by omega) (by omega) W
          clear o1 o2 HC1 HC2
          obtain ⟨S, hS⟩ : ∃ S, sl T ni nj = S := ⟨_, rfl⟩
          rw [hS] at HRS HO1 HTS ⊢
          have hSl : nj - ni = S.length := by rw [← hS]; unfold sl; rw [List.length_drop, List.length_take]; simp; omega
          have HSE := Lib.hid hS
          clear hS
          have hts := HTS.out
          rw [hSl, Nat.mul_one] at hts
          have HTT : Hid (Tms wK (.slice (some ⟨bt, ot + ni, none⟩) S.length (tc - ni)) S) := Lib.hid hts
          have HFR : Hid (From wK wK) := Lib.hid (Below.refl _ _)
          have HUP := Lib.hid ((rising_iff S).1 HRS.out)
          clear HTS hts
          obtain ⟨P, hP⟩ : ∃ P, piecesR L ni nj = P := ⟨_, rfl⟩
          have HRP := Lib.hid (fun W hW => rPieces_any L (.slice ux L.length uc) ni nj W (by omega) (by omega) hW HRB.out)
          rw [hP] at HPW HO2 HRP ⊢
          have HPE := Lib.hid hP
          clear hP
          go_wp2_with fail
          refine (rOf_any S _ wK HTT.out HUP.out.2.2 HUP.out.2.1).mono ?_
          rintro e w61 ⟨q9, rfl, hq9, hb⟩
          replace HB := Lib.hid (HB.out.trans (hb.mono HB.out.size))
          replace HU := Lib.hid (HU.out.keep hb)
          replace HO2 := Lib.hid (HO2.out.keep hb)
          replace HTT := Lib.hid (HTT.out.keep hb)
          replace HO1 := Lib.hid (HO1.out.keep hb)
          replace HFR := Lib.hid (HFR.out.keep hb)
          clear hb
          have HQ9 := Lib.hid (own_rus hq9)
          obtain ⟨qx9, qc9, rfl, _, _⟩ := SlR.shape HQ9.out
          clear hq9
          go_wp2_with fail
          refine (equalR_any (ofR S) (ofR S) _ _ w61 HO1.out HQ9.out (ofR_rw HRS.out) (ofR_rw HRS.out) true (by simp)).mono ?_
          rintro e w62 ⟨rfl, hb⟩
          replace HB := Lib.hid (HB.out.trans (hb.mono HB.out.size))
          replace HU := Lib.hid (HU.out.keep hb)
          replace HO2 := Lib.hid (HO2.out.keep hb)
          replace HTT := Lib.hid (HTT.out.keep hb)
          replace HO1 := Lib.hid (HO1.out.keep hb)
          replace HFR := Lib.hid (HFR.out.keep hb)
          replace HQ9 := Lib.hid (HQ9.out.keep hb)
          clear hb
          clear HQ9 HTT HO1
          go_wp2_with fail
          refine (HRP.out w62 HU.out).mono ?_
          rintro e w63 ⟨q8, rfl, hq8, hb⟩
          replace HB := Lib.hid (HB.out.trans (hb.mono HB.out.size))
          replace HU := Lib.hid (HU.out.keep hb)
          replace HO2 := Lib.hid (HO2.out.keep hb)
          replace HFR := Lib.hid (HFR.out.keep hb)
          clear hb
          have HQ8 := Lib.hid (own_rus hq8)
          obtain ⟨qx8, qc8, rfl, _, _⟩ := SlR.shape HQ8.out
          clear hq8
          go_wp2_with fail
          refine (equalR_any P P _ _ w63 HO2.out HQ8.out HPW.out HPW.out true (by simp)).mono ?_
          rintro e w64 ⟨rfl, hb⟩
          replace HB := Lib.hid (HB.out.trans (hb.mono HB.out.size))
          replace HU := Lib.hid (HU.out.keep hb)
          replace HO2 := Lib.hid (HO2.out.keep hb)
          replace HFR := Lib.hid (HFR.out.keep hb)
          replace HQ8 := Lib.hid (HQ8.out.keep hb)
          clear hb
          go_wp2_with fail
          obtain rfl := HSE.out
          obtain rfl := HPE.out
          go_meet
          exact HFR.out
        · have hc : (i < 0 ∨ j ≤ i ∨ (T.length : Int) < j) := of_decide_eq_true HZ.out
          have hq := HQ2.out
          rw [if_pos hc] at hq
          subst hq
          have d1 := (OfR.no (by decide)).1 HC1.out
          have d2 := (PcR.no (by decide)).1 HC2.out
          simp only [Value.slice.injEq] at d1 d2
          obtain ⟨rfl, rfl, rfl⟩ := d1
          obtain ⟨rfl, rfl, rfl⟩ := d2
          clear HQ2 HQ HC1 HC2 hc
          go_wp2_with fail
          go_meet
          exact Below.refl _ _
      case rest =>
        have hb := hcut
        replace HB := Lib.hid (HB.out.trans (hb.mono HB.out.size))
        replace HU := Lib.hid (HU.out.keep hb)
        replace HV := Lib.hid (HV.out.keep hb)
        replace HC3 := Lib.hid (HC3.out.keep hb)
        replace HT1 := Lib.hid (HT1.out.keep hb)
        replace HT2 := Lib.hid (HT2.out.keep hb)
        clear hb
        clear hcut HC1 HC2 HZ HQ2 HQ
        have hg := HG2.out
        cases rm
        · rw [if_neg (by simp)] at hg
          subst hg
          have d3 := (OfR.no (by decide)).1 HC3.out
          simp only [Value.slice.injEq] at d3
          obtain ⟨rfl, rfl, rfl⟩ := d3
          clear HG2 HG HC3
          go_wp2_with fail
          go_ret
          exact ⟨rfl, HB.out⟩
        · rw [if_pos (by simp)] at hg
          have HG3 := Lib.hid hg
          have hte := timesD_rises HRM.out
          rw [HTE2.out] at hte
          have HTM := Lib.hid (times_rising HRM.out)
          rw [← hte] at HTM HC3 HG3
          clear hg hte HG2
          have h1l := ((rising_iff T).1 HTR.out).2.1
          have h2l := ((rising_iff T2).1 HTM.out).2.1
          go_wp2_with fail
          obtain ⟨wZ, hwZ⟩ : ∃ x, x = wc := ⟨_, rfl⟩
          subst hwZ
          have HFZ : Hid (From wZ wZ) := Lib.hid (Below.refl _ _)
          have HC3Z := HC3
          have HBZ := HB
          clear HU HV HC3
          refine (cloneT_any T _ wZ HT1.out (by omega)).mono ?_
          rintro e w91 ⟨q7, rfl, hq7, hb⟩
          replace HB := Lib.hid (HB.out.trans (hb.mono HB.out.size))
          replace HT2 := Lib.hid (HT2.out.keep hb)
          replace HFZ := Lib.hid (HFZ.out.keep hb)
          clear hb
          obtain ⟨qx7, qc7, rfl, _, _⟩ := (ownSl hq7).shape
          have HQ7 := Lib.hid hq7
          have ht2 := HT2.out
          have hsz7 := HFZ.out.size
          clear HT1
          go_wp2_with (refine Agg.append ti22 _ _ rfl rfl wZ.heap.size (v := .slice qx7 T.length qc7) rfl hq7 rfl ht2 (tC_one T2) (by unfold maxLen; omega) (by omega) hsz7 ?_; intro v' w4 hC4 hg4 _; simp only [Act.put, List.setIfInBounds_toArray, List.set_cons_succ, List.set_cons_zero])
          have hF4 : Below wZ.heap.size wZ w4 := HFZ.out.trans (grown_below hg4 hsz7 (own_block HQ7.out))
          obtain ⟨A, hA⟩ : ∃ A, T ++ T2 = A := ⟨_, rfl⟩
          have hAl : A.length = T.length + T2.length := by rw [← hA, List.length_append]
          have hC5 : w4.ownsRow wZ.heap.size 2 1 v' A.length (tC A) := by
            rw [hAl, ← hA, show tC (T ++ T2) = tC T ++ tC T2 from List.map_append]; exact hC4
          obtain ⟨ax, ac, rfl, _, _⟩ := (ownSl hC5).shape
          have HAT := Lib.hid (own_tms hC5)
          have HC3 := Lib.hid (HC3Z.out.keep hF4)
          have HB := Lib.hid (HBZ.out.trans (hF4.mono HBZ.out.size))
          rw [hA] at HC3 HG3
          clear hF4 hA hAl hC5 hC4 hg4 HQ7 HC3Z HBZ HT2 ht2 hsz7 HFZ
          obtain ⟨ra, hra⟩ : ∃ b, risingB A = b := ⟨_, rfl⟩
          have HRA := Lib.hid hra
          rw [hra] at HG3
          have hrsg := rising_any A (.slice ax A.length ac) w4 HAT.out
          rw [hra] at hrsg
          clear hra
          refine (hrsg).mono ?_
          rintro e w101 ⟨rfl, hb⟩
          replace HB := Lib.hid (HB.out.trans (hb.mono HB.out.size))
          replace HAT := Lib.hid (HAT.out.keep hb)
          replace HC3 := Lib.hid (HC3.out.keep hb)
          clear hb
          clear hrsg
          have hg := HG3.out
          cases ra
          · rw [if_neg (by decide)] at hg
            subst hg
            have d3 := (OfR.no (by decide)).1 HC3.out
            simp only [Value.slice.injEq] at d3
            obtain ⟨rfl, rfl, rfl⟩ := d3
            clear HG3 HG HC3
            go_wp2_with fail
            go_ret
            exact ⟨rfl, HB.out⟩
          · rw [if_pos rfl] at hg
            subst hg
            have HO3 := Lib.hid (own_rus (OfR.yes.1 HC3.out))
            obtain ⟨_, _, e3, _, _⟩ := SlR.shape HO3.out
            simp only [Value.slice.injEq] at e3
            obtain ⟨rfl, rfl, rfl⟩ := e3
            have HUP := Lib.hid ((rising_iff A).1 HRA.out)
            clear HG3 HG HC3
            go_wp2_with fail
            refine (rOf_any A _ w101 HAT.out HUP.out.2.2 HUP.out.2.1).mono ?_
            rintro e w102 ⟨q9, rfl, hq9, hb⟩
            replace HB := Lib.hid (HB.out.trans (hb.mono HB.out.size))
            replace HAT := Lib.hid (HAT.out.keep hb)
            replace HO3 := Lib.hid (HO3.out.keep hb)
            clear hb
            have HQ9 := Lib.hid (own_rus hq9)
            obtain ⟨qx9, qc9, rfl, _, _⟩ := SlR.shape HQ9.out
            clear hq9
            go_wp2_with fail
            refine (equalR_any (ofR A) (ofR A) _ _ w102 HO3.out HQ9.out (ofR_rw HRA.out) (ofR_rw HRA.out) true (by simp)).mono ?_
            rintro e w103 ⟨rfl, hb⟩
            replace HB := Lib.hid (HB.out.trans (hb.mono HB.out.size))
            replace HO3 := Lib.hid (HO3.out.keep hb)
            replace HQ9 := Lib.hid (HQ9.out.keep hb)
            clear hb
            go_wp2_with fail
            go_ret
            exact ⟨rfl, HB.out⟩
theorem RunsCuts_walk (v : Value) (f : Nat) (v2 : Value) (f2 : Nat) (i j : Int) (w : World) (h : Agg.Good Try.prog w f 24 [v]) (h2 : Agg.Good Try.prog w f2 24 [v2]) (_ : (Lit.int .i64 i).wf = true) (_ : (Lit.int .i64 j).wf = true) :
    Calls Try.prog 9 #[v, v2, .int .i64 i, .int .i64 j] w fun e w' => e = .returned (.bool true) ∧ Below w.heap.size w w' := by
  obtain ⟨l, h3, h4⟩ := good_runs h
  obtain ⟨m, h5, h6⟩ := good_runs h2
  exact cuts_walk l m v v2 i j w h3 h4 h5 h6
end Go.Proofs.Ytpligbfajnjklaa
