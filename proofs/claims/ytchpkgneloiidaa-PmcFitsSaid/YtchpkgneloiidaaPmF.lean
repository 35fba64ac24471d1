/-
  THE WALK OF LAYER 8's STATEMENT PmcParts.
-/
import Derived.Test.YtchpkgneloiidaaPmD
namespace Go.Proofs.Ytchpkgneloiidaa
open Go.ChangeShapes Go.WideShapes Go.ChangeAt Go.RowKit Agg Pg Pm
attribute [local go_sem] Oper.semAt_some

theorem com_bad {l : List Bd} (h : checkB l = false) : commonP l = ((0, 0), 180) := by unfold commonP; rw [h]; rfl
theorem com_yes {l : List Bd} (h : checkB l = true) (v : Int) (hv : Thr l v) : ∃ s, commonP l = (s, 0) ∧ s.1 ≤ s.2 ∧ (∀ v, (s.1 ≤ v ∧ v ≤ s.2) ↔ Thr l v) ∧ I64 s.1 ∧ I64 s.2 := by
  obtain ⟨a1, a2, a3, a4⟩ := check_len h
  have hne : l ≠ [] := fun e => by subst e; simp at a1
  obtain ⟨t, k, h1, h2, h3, h4, h5, h6⟩ := longest_spec hne a4
  have hk := longest_most hne a4 (j := l.length) (Nat.le_refl _) (v := v) (by rwa [List.take_length])
  rw [h1] at hk
  obtain rfl : k = l.length := by simp only at hk; omega
  rw [List.take_length] at h5
  have hb : ∀ z, Thr l z → -maxB ≤ z ∧ z ≤ maxB := fun z hz => by
    cases l with
    | nil => exact absurd rfl hne
    | cons b l => have := hz b (by simp); have := a4 b (by simp); omega
  have b1 := hb t.1 ((h5 t.1).1 ⟨Int.le_refl _, h4⟩)
  have b2 := hb t.2 ((h5 t.2).1 ⟨h4, Int.le_refl _⟩)
  unfold maxB at b1 b2
  refine ⟨t, ?_, h4, h5, by unfold I64; omega, by unfold I64; omega⟩
  unfold commonP com1P
  rw [h, if_pos rfl, h1, if_pos rfl]
theorem com_no {l : List Bd} (h : checkB l = true) (hv : ∀ v, ¬ Thr l v) : commonP l = ((0, 0), 181) := by
  obtain ⟨a1, a2, a3, a4⟩ := check_len h
  have hne : l ≠ [] := fun e => by subst e; simp at a1
  obtain ⟨t, k, h1, h2, h3, h4, h5, h6⟩ := longest_spec hne a4
  unfold commonP com1P
  rw [h, if_pos rfl, h1, if_neg]
  intro hk
  obtain rfl : k = l.length := hk
  rw [List.take_length] at h5
  exact hv t.1 ((h5 t.1).1 ⟨Int.le_refl _, h4⟩)
theorem com_ok (l : List Bd) : (commonP l).2 = 0 → (commonP l).1.1 ≤ (commonP l).1.2 ∧ I64 (commonP l).1.1 ∧ I64 (commonP l).1.2 := fun h0 => by
  cases hc : checkB l with
  | false => rw [com_bad hc] at h0; exact absurd h0 (by decide)
  | true =>
    by_cases hv : ∃ v, Thr l v
    · obtain ⟨v, hv⟩ := hv
      obtain ⟨s, h1, h2, h3, h4, h5⟩ := com_yes hc v hv
      rw [h1]; exact ⟨h2, h4, h5⟩
    · rw [com_no hc (fun v h => hv ⟨v, h⟩)] at h0; exact absurd h0 (by decide)
theorem midI_in (s : Int × Int) (h : s.1 ≤ s.2) : s.1 ≤ midI s ∧ midI s ≤ s.2 := by unfold midI; omega
theorem fit_yes {l : List Bd} {s : Spn} (h : commonP l = (s, 0)) : fitP l = (midI s, 0) := by unfold fitP; rw [h]; rfl
theorem fit_no {l : List Bd} {s : Spn} {e : Int} (h : commonP l = (s, e)) (he : e ≠ 0) : fitP l = (0, e) := by unfold fitP; rw [h, if_neg he]
theorem round_facts {L : List Bd} (h : checkB L = true) {i : Nat} (hi : i < L.length) : ∃ (n : Nat) (z : Int), 1 ≤ n ∧ n ≤ L.length - i ∧ cut (L.drop i) = n :: cut (L.drop (i + n)) ∧ fitP ((L.drop i).take n) = (z, 0) ∧ thrB ((L.drop i).take n) z = true ∧ longP (L.drop i) = ((n : Int), 0) ∧
    (n < L.length - i → fitP ((L.drop i).take (n + 1)) = (0, 181)) := by
  obtain ⟨a1, a2, a3, a4⟩ := check_len h
  have hdl : (L.drop i).length = L.length - i := List.length_drop ..
  have hne : L.drop i ≠ [] := fun e => by rw [e] at hdl; simp at hdl; omega
  obtain ⟨t, n, h1, h2, h3, h4, h5, h6⟩ := longest_spec hne (a4.drop i)
  have hst := cut_step hne (a4.drop i)
  rw [h1] at hst
  simp only at hst
  rw [List.drop_drop] at hst
  rw [hdl] at h3
  have c1 := check_part h i n (by rw [List.length_take, hdl]; omega)
  have c2 := check_part h i (L.length - i) (by rw [List.length_take, hdl]; omega)
  rw [List.take_of_length_le (by rw [hdl]; omega)] at c2
  obtain ⟨s, q1, q2, q3, q4, q5⟩ := com_yes c1 t.1 ((h5 t.1).1 ⟨Int.le_refl _, h4⟩)
  refine ⟨n, midI s, h2, h3, hst, fit_yes q1, (thrB_iff _ _).2 ((q3 _).1 (midI_in s q2)), by unfold longP; rw [c2, h1]; rfl, fun hn => ?_⟩
  have c3 := check_part h i (n + 1) (by rw [List.length_take, hdl]; omega)
  exact fit_no (com_no c3 (h6 (by rw [hdl]; exact hn))) (by decide)
set_option maxHeartbeats 4000000 in
set_option maxRecDepth 100000 in
theorem parts_walk (l : List Bd) (v : Value) (w : World) (hl : Bds w v l) :
    Calls Try.prog 8 #[v] w fun e w' => e = .returned (.bool true) ∧ Below w.heap.size w w' := by
  obtain ⟨x, cap, rfl, _⟩ := SlR.shape hl
  have HL := Lib.hid hl
  clear hl
  have HB := Lib.hid (Below.refl w.heap.size w)
  go_enter Try.func8, Try.ntmps8
  go_wp2_with fail
  refine (wakes_any w).mono ?_
  rintro e w1 ⟨rfl, hb⟩
  replace HB := Lib.hid (HB.out.trans (hb.mono HB.out.size))
  replace HL := Lib.hid (HL.out.keep hb)
  clear hb
  go_wp2_with fail
  refine (few_any l _ w1 HL.out).mono ?_
  rintro e w2 ⟨u, rfl, hu, hb⟩
  replace HB := Lib.hid (HB.out.trans (hb.mono HB.out.size))
  replace HL := Lib.hid (HL.out.keep hb)
  clear hb
  have HU : Hid (Bds w2 u (few257 l)) := Lib.hid (own_bds hu)
  have hfl := few_le l
  clear hu HL
  generalize few257 l = L at *
  obtain ⟨ux, uc, rfl, huc, _⟩ := SlR.shape HU.out
  obtain ⟨q, hq⟩ : ∃ q, checkB L = q := ⟨_, rfl⟩
  have HQ := Lib.hid hq
  clear hq
  go_wp2_with fail
  refine (chkB_any L _ w2 HU.out q HQ.out).mono ?_
  rintro e w3 ⟨rfl, hb⟩
  replace HB := Lib.hid (HB.out.trans (hb.mono HB.out.size))
  replace HU := Lib.hid (HU.out.keep hb)
  clear hb
  cases q
  · go_wp2_with fail
    refine (cut_any L _ w3 HU.out false HQ.out).mono ?_
    rintro e w4 ⟨c1, rfl, hc1, hb⟩
    replace HB := Lib.hid (HB.out.trans (hb.mono HB.out.size))
    replace HU := Lib.hid (HU.out.keep hb)
    clear hb
    obtain rfl := CutV.no.1 hc1
    clear hc1
    go_wp2_with fail
    go_ret
    exact ⟨rfl, HB.out⟩
  · have hck := check_len HQ.out
    have hL1 := hck.1
    clear hck
    have HRF := Lib.hid (fun i (hi : i < L.length) => round_facts HQ.out hi)
    go_wp2_with fail
    refine (cut_any L _ w3 HU.out true HQ.out).mono ?_
    rintro e w5 ⟨c1, rfl, hc1, hb⟩
    replace HB := Lib.hid (HB.out.trans (hb.mono HB.out.size))
    replace HU := Lib.hid (HU.out.keep hb)
    clear hb
    have HCU := Lib.hid (ownSl (CutV.yes.1 hc1))
    clear hc1
    obtain ⟨c1x, c1c, rfl, hcc, hccm⟩ := HCU.out.shape
    have hc0 : 1 ≤ (cut L).length := by
      obtain ⟨n, z, q1, q2, q3, _⟩ := HRF.out 0 (by omega)
      rw [List.drop_zero] at q3
      rw [q3]; simp
    have hc0b : (((cut L).length : Int) == 0) = false := beq_false_of_ne (by omega)
    have hcb : ((cut L).length : Int) ≤ 9223372036854775807 := by unfold maxLen at hccm; omega
    obtain ⟨C, hC⟩ : ∃ C, cut L = C := ⟨_, rfl⟩
    have HC := Lib.hid hC
    rw [hC] at HCU hcc hc0 hc0b hcb ⊢
    clear hC hccm
    obtain ⟨wZ, hwZ⟩ : ∃ x, x = w5 := ⟨_, rfl⟩
    subst hwZ
    have HUZ := HU
    have HCZ := HCU
    have HBZ := HB
    clear HU HCU HB
    go_wp2_with fail
    go_loopw [8, 46] (fun s8 ix wr => ∃ (k i : Nat) (y : Option Addr) (c : Nat), k ≤ C.length ∧ ix = .int .i64 k ∧ i ≤ L.length ∧ C.drop k = cut (L.drop i) ∧ s8 = .slice y (L.length - i) c ∧ Bds wr (.slice y (L.length - i) c) (L.drop i) ∧ Below wZ.heap.size wZ wr) (fun _ ix _ => C.length - (intOf ix).toNat)
    case atStart => exact ⟨0, 0, ux, uc, by omega, rfl, by omega, by rw [List.drop_zero, List.drop_zero]; exact HC.out.symm, by simp, by simpa using HUZ.out, Below.refl _ _⟩
    case round =>
      obtain ⟨k, i, y2, c2, hk, rfl, hi, hd, rfl, hbd, hb⟩ := hrel
      have HD := Lib.hid hd
      have HR := Lib.hid hbd
      have HB := Lib.hid (HBZ.out.trans (hb.mono HBZ.out.size))
      have HFZ : Hid (From wZ wr) := Lib.hid hb
      clear hd hbd hb
      obtain ⟨wA, hwA⟩ : ∃ x, x = wr := ⟨_, rfl⟩
      subst hwA
      by_cases hlt : k < C.length
      · have hil : i < L.length := by
          have h2 := HD.out
          by_cases h : i < L.length
          · exact h
          · obtain rfl : i = L.length := by omega
            rw [List.drop_length, cut_nil] at h2
            have h3 := congrArg List.length h2
            rw [List.length_drop, List.length_nil] at h3; omega
        obtain ⟨n, z, r1, r2, r3, r4, r5, r6, r7⟩ := HRF.out i hil
        have hd2 := HD.out
        rw [r3, List.drop_eq_getElem_cons hlt] at hd2
        obtain ⟨e1, e2⟩ := List.cons.inj hd2
        clear hd2 HD r3
        have HD2 := Lib.hid e2
        have hS3 := SlR.keep HCZ.out HFZ.out
        obtain ⟨b2, o2, cap', hve, _, _, hcm, _⟩ := SlR.pos hS3 (by decide) (by omega)
        simp only [Value.slice.injEq, true_and] at hve
        obtain ⟨rfl, rfl⟩ := hve
        have hck := hcm k (.int .i64 (C[k] : Int)) (by simp [nC, List.getElem?_eq_getElem hlt])
        rw [e1] at hck
        have hck2 : wA.cell? ⟨b2, o2 + k, none⟩ = some (.int .i64 (n : Int)) := hck
        clear e1 e2 hS3 hcm hck
        have H4 := Lib.hid r4
        have H5 := Lib.hid r5
        have H6 := Lib.hid r6
        have H7 := Lib.hid r7
        clear r4 r5 r6 r7
        have hdl : (L.drop i).length = L.length - i := List.length_drop ..
        have hdd : ∀ n, (L.drop i).drop n = L.drop (i + n) := fun n => List.drop_drop ..
        have HDD := Lib.hid hdd
        clear hdd
        obtain ⟨R, hR⟩ : ∃ R, L.drop i = R := ⟨_, rfl⟩
        obtain ⟨rn, hrn⟩ : ∃ n, L.length - i = n := ⟨_, rfl⟩
        rw [hR] at HR H4 H5 H6 H7 HDD hdl
        rw [hrn] at HR H7 hdl r2 ⊢
        subst hdl
        have hrc : R.length ≤ c2 := by obtain ⟨_, _, e, h1, _⟩ := SlR.shape HR.out; cases e; exact h1
        have HT := Lib.hid (bds_take HR.out n r2)
        have htl : (R.take n).length = n := by rw [List.length_take]; omega
        go_wp2_with fail
        refine (fit_any (R.take n) _ wA HT.out (com_ok _) z 0 H4.out).mono ?_
        rintro e w21 ⟨rfl, hb⟩
        replace HB := Lib.hid (HB.out.trans (hb.mono HB.out.size))
        replace HR := Lib.hid (HR.out.keep hb)
        replace HFZ := Lib.hid (HFZ.out.keep hb)
        replace HT := Lib.hid (HT.out.keep hb)
        clear hb
        go_wp2_with fail
        refine (longestX_any R _ w21 HR.out n 0 H6.out).mono ?_
        rintro e w22 ⟨rfl, hb⟩
        replace HB := Lib.hid (HB.out.trans (hb.mono HB.out.size))
        replace HR := Lib.hid (HR.out.keep hb)
        replace HFZ := Lib.hid (HFZ.out.keep hb)
        replace HT := Lib.hid (HT.out.keep hb)
        clear hb
        go_wp2_with fail
        refine (through_any (R.take n) _ z w22 HT.out true H5.out).mono ?_
        rintro e w23 ⟨rfl, hb⟩
        replace HB := Lib.hid (HB.out.trans (hb.mono HB.out.size))
        replace HR := Lib.hid (HR.out.keep hb)
        replace HFZ := Lib.hid (HFZ.out.keep hb)
        replace HT := Lib.hid (HT.out.keep hb)
        clear hb
        clear HT
        by_cases hnr : n < R.length
        · have HT2 := Lib.hid (bds_take HR.out (n + 1) hnr)
          have htl2 : (R.take (n + 1)).length = n + 1 := by rw [List.length_take]; omega
          have h7 := H7.out hnr
          have hnr2 : (n : Int) < R.length := by omega
          go_wp2_with fail
          refine (fit_any (R.take (n + 1)) _ w23 HT2.out (com_ok _) 0 181 h7).mono ?_
          rintro e w24 ⟨rfl, hb⟩
          replace HB := Lib.hid (HB.out.trans (hb.mono HB.out.size))
          replace HR := Lib.hid (HR.out.keep hb)
          replace HFZ := Lib.hid (HFZ.out.keep hb)
          clear hb
          clear HT2 h7
          obtain ⟨y3, c3, hsl, hbd3⟩ := slice_rest tiBd HR.out n r2
          rw [HDD.out] at hbd3
          have HR3 := Lib.hid hbd3
          clear hbd3 HR
          go_wp2_with (refine Agg.gSliceFrom (.slice y3 (R.length - n) c3) rfl rfl rfl rfl hsl ?_; simp only [Act.put, List.setIfInBounds_toArray, List.set_cons_succ, List.set_cons_zero])
          have hrl : R.length - n = L.length - (i + n) := by omega
          rw [hrl] at HR3 ⊢
          exact ⟨⟨k + 1, i + n, y3, c3, by omega, by go_num, by omega, HD2.out, rfl, HR3.out, HFZ.out⟩, by simp [intOf]; omega⟩
        · have hnr2 : ¬ (n : Int) < R.length := by omega
          obtain ⟨y3, c3, hsl, hbd3⟩ := slice_rest tiBd HR.out n r2
          rw [HDD.out] at hbd3
          have HR3 := Lib.hid hbd3
          clear hbd3 HR
          go_wp2_with (refine Agg.gSliceFrom (.slice y3 (R.length - n) c3) rfl rfl rfl rfl hsl ?_; simp only [Act.put, List.setIfInBounds_toArray, List.set_cons_succ, List.set_cons_zero])
          have hrl : R.length - n = L.length - (i + n) := by omega
          rw [hrl] at HR3 ⊢
          exact ⟨⟨k + 1, i + n, y3, c3, by omega, by go_num, by omega, HD2.out, rfl, HR3.out, HFZ.out⟩, by simp [intOf]; omega⟩
      · obtain rfl : k = C.length := by omega
        have h2 := HD.out
        rw [List.drop_length] at h2
        have h0 : L.length - i = 0 := by
          by_cases h : i < L.length
          · obtain ⟨n, z, q1, q2, q3, _⟩ := HRF.out i h
            rw [q3] at h2; cases h2
          · omega
        clear h2 HD HR
        rw [h0]
        go_wp2_with fail
        go_ret
        exact ⟨rfl, HB.out⟩
theorem PmcParts_walk (v : Value) (f : Nat) (w : World) (h : Agg.Good Try.prog w f 22 [v]) :
    Calls Try.prog 8 #[v] w fun e w' => e = .returned (.bool true) ∧ Below w.heap.size w w' := by
  obtain ⟨l, h3, h4⟩ := good_bands h
  exact parts_walk l v w h3
end Go.Proofs.Ytchpkgneloiidaa
