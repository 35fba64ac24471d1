/-
  THE WALKS OF LAYER 7 (runs): the document's Right; own.
-/
import Derived.Test.YtpligbfajnjklaaRuD
section
namespace Go.Proofs.Ytpligbfajnjklaa
open Go.ChangeShapes Go.WideShapes Go.ChangeAt Go.RowKit Agg Pg Ru

theorem own_tms {base : Nat} {w : World} {v : Value} {l : List Int} (h : w.ownsRow base 2 1 v l.length (tC l)) : Tms w v l := ownSl h
set_option maxHeartbeats 1000000 in
theorem rRight_any (l : List Rn) (v : Value) (w : World) (hl : Rus w v l) (hw : ∀ r ∈ l, Rw r) :
    Calls Try.prog 21 #[v] w fun e w' => e = .returned (.bool (risesB l)) ∧ Below w.heap.size w w' := by
  rw [← right_rises]
  obtain ⟨x, cap, rfl, _⟩ := SlR.shape hl
  have HL := Lib.hid hl
  have HW := Lib.hid hw
  clear hl hw
  obtain ⟨rr, hrr⟩ : ∃ b, rightR l = b := ⟨_, rfl⟩
  rw [hrr]
  have HRR := Lib.hid hrr
  clear hrr
  have HB := Lib.hid (Below.refl w.heap.size w)
  go_enter Try.func21, Try.ntmps21
  go_wp2_with fail
  refine (rTimes_any l _ w HL.out HW.out).mono ?_
  rintro e w1 ⟨u, rfl, hu, hb⟩
  replace HB := Lib.hid (HB.out.trans (hb.mono HB.out.size))
  replace HL := Lib.hid (HL.out.keep hb)
  clear hb
  have HT := Lib.hid (own_tms hu)
  obtain ⟨tx, tc, rfl, _, _⟩ := SlR.shape HT.out
  clear hu
  obtain ⟨T, hT⟩ : ∃ T, timesD l = T := ⟨_, rfl⟩
  rw [hT] at HT
  rw [hT]
  have hrr := HRR.out
  rw [rightR, hT] at hrr
  have HR2 := Lib.hid hrr
  clear hrr hT
  go_wp2_with fail
  refine (rising_any T _ w1 HT.out).mono ?_
  rintro e w2 ⟨rfl, hb⟩
  replace HB := Lib.hid (HB.out.trans (hb.mono HB.out.size))
  replace HL := Lib.hid (HL.out.keep hb)
  replace HT := Lib.hid (HT.out.keep hb)
  clear hb
  obtain ⟨rb, hrb⟩ : ∃ b, risingB T = b := ⟨_, rfl⟩
  rw [hrb]
  have HRB := Lib.hid hrb
  clear hrb
  cases rb
  · have h := HR2.out
    rw [HRB.out, Bool.false_and] at h
    subst h
    go_wp2_with fail
    go_ret
    exact ⟨rfl, HB.out⟩
  · have h := HR2.out
    rw [HRB.out, Bool.true_and] at h
    have HR3 := Lib.hid h
    have HUP := Lib.hid ((rising_iff T).1 HRB.out)
    clear h
    go_wp2_with fail
    refine (rOf_any T _ w2 HT.out HUP.out.2.2 HUP.out.2.1).mono ?_
    rintro e w3 ⟨q, rfl, hq, hb⟩
    replace HB := Lib.hid (HB.out.trans (hb.mono HB.out.size))
    replace HL := Lib.hid (HL.out.keep hb)
    replace HT := Lib.hid (HT.out.keep hb)
    clear hb
    have HQ := Lib.hid (own_rus hq)
    obtain ⟨qx, qc, rfl, _, _⟩ := SlR.shape HQ.out
    clear hq
    go_wp2_with fail
    refine (rSame_any (ofR T) l _ _ w3 HQ.out HL.out (ofR_rw HRB.out) HW.out rr HR3.out).mono ?_
    rintro e w4 ⟨rfl, hb⟩
    replace HB := Lib.hid (HB.out.trans (hb.mono HB.out.size))
    replace HL := Lib.hid (HL.out.keep hb)
    replace HT := Lib.hid (HT.out.keep hb)
    replace HQ := Lib.hid (HQ.out.keep hb)
    clear hb
    go_wp2_with fail
    go_ret
    exact ⟨rfl, HB.out⟩
theorem rus_take {w : World} {x : Option Addr} {cap : Nat} {l : List Rn} (h : Rus w (.slice x l.length cap) l) (k : Nat) (hk : k ≤ l.length) : Rus w (.slice x k cap) (l.take k) := by
  have := SlR.take h k hk
  show SlR _ _ _ _ _
  rw [List.length_take, Nat.min_eq_left hk]
  have e : (l.take k).flatMap ruC = (l.flatMap ruC).take (k * 3) := by
    have e0 : l.flatMap ruC = (l.take k).flatMap ruC ++ (l.drop k).flatMap ruC := by rw [← List.flatMap_append, List.take_append_drop]
    rw [e0, List.take_left' (by rw [flat_len ruC 3 _ (fun b hb => rfl), List.length_take, Nat.min_eq_left hk])]
  rw [e]; exact this
/-- runs in memory of their own -/
def cut300 (l : List Rn) : List Rn := l.take (min l.length 300)
def OwnV (base : Nat) (l : List Rn) (v : Value) (w : World) : Prop := w.ownsRow base 31 3 v l.length (l.flatMap ruC)
theorem OwnV.stable (base : Nat) (l : List Rn) : Stable (OwnV base l) := fun _ _ _ h hb => own_keep h hb
set_option maxHeartbeats 1000000 in
theorem own_any (l : List Rn) (v : Value) (w : World) (hl : Rus w v l) :
    Calls Try.prog 17 #[v] w fun e w' => ∃ u, e = .returned u ∧ OwnV w.heap.size (cut300 l) u w' ∧ Below w.heap.size w w' := by
  obtain ⟨x, cap, rfl, hc, hm⟩ := SlR.shape hl
  have hc3 : cap ≤ 9223372036854775807 := by unfold maxLen at hm; omega
  obtain ⟨m, hmd⟩ : ∃ m, m = min l.length 300 := ⟨_, rfl⟩
  have hm1 : m ≤ l.length := by omega
  have hm2 : m ≤ 300 := by omega
  have hme : min (l.length : Int) 300 = (m : Int) := by omega
  have hs0 := rus_take hl m hm1
  have hle : (l.take m).length = m := by rw [List.length_take]; omega
  unfold cut300
  rw [← hmd]
  clear hmd
  generalize l.take m = T at *
  have hmc : (m : Int) ≤ cap := by omega
  have hs := Lib.hid (SlR.keep hs0 ((Below.refl w.heap.size w).alloc (Nat.le_refl _) (.cells #[] 31)))
  have hown := Lib.hid (World.ownsRow_lit (e := 31) (size := 3) (base := w.heap.size) w #[] 0 (Nat.le_refl _) (by decide) rfl)
  have HLE := Lib.hid hle
  clear hs0 hle hl hm
  have hs2 : SlR (w.alloc (.cells #[] 31)) (.slice x m cap) 3 m (T.flatMap ruC) := by have h := hs.out; rw [HLE.out] at h; exact h
  clear hs
  have HB := Lib.hid (Below.refl w.heap.size w)
  go_enter Try.func17, Try.ntmps17
  have hb0 := HB.out.trans ((((Below.refl w.heap.size w).alloc (Nat.le_refl _) (.cells #[] 31))).mono HB.out.size)
  go_wp2_with (first
    | (refine Agg.min2 _ _ _ (m : Int) rfl rfl rfl rfl hme ?_; simp only [Act.put, List.setIfInBounds_toArray, List.set_cons_succ, List.set_cons_zero])
    | (refine Agg.append ti24 _ _ rfl rfl w.heap.size (v := .slice (some ⟨w.heap.size, 0, none⟩) 0 0) rfl hown.out rfl hs2 (rus_one T) (by unfold maxLen; omega) (by omega) (by simp) ?_; intro v2 w3 ho hg hnil; simp only [Act.put, List.setIfInBounds_toArray, List.set_cons_succ, List.set_cons_zero]))
  go_ret
  refine ⟨_, rfl, ?_, hb0.trans (grown_below hg hb0.size (fun j hj => by cases hj; exact Nat.le_refl _))⟩
  show w3.ownsRow _ _ _ _ _ _
  rw [HLE.out]
  simpa using ho
end Go.Proofs.Ytpligbfajnjklaa
end
section
/-
  THE WALK OF LAYER 7's STATEMENT RunsFinds.
-/
namespace Go.Proofs.Ytpligbfajnjklaa
open Go.ChangeShapes Go.WideShapes Go.ChangeAt Go.RowKit Agg Pg Ru

theorem clip_doc {l : List Rn} (h : risesB l = true) (a b : Int) : clipP l a b = ((nBelow a (times l) : Int), max (nBelow a (times l) : Int) (nUpto b (times l) : Int)) := by
  rw [clipP, if_neg (by rw [h]; decide)]
  congr 1
  have hl := times_len h
  have hn := nBelow_le a (times l)
  by_cases hb : maxT ≤ b
  · rw [if_pos hb]
    have hu : nUpto b (times l) = (times l).length := List.countP_eq_length.2 (fun x hx => by
      have := ((rising_iff _).1 (times_rising h)).2.2.1 x hx
      simp; omega)
    rw [hu]; omega
  · rw [if_neg hb, nBelow_upto]
theorem cut300_rw {l : List Rn} (h : ∀ r ∈ l, Rw r) : ∀ r ∈ cut300 l, Rw r := fun r hr => h r (List.mem_of_mem_take hr)
theorem good_runs {w : World} {fuel : Nat} {v : Value} (h : Agg.Good Try.prog w fuel 24 [v]) : ∃ l : List Rn, Rus w v l ∧ ∀ r ∈ l, Rw r := by
  obtain ⟨l, h1, h2, h3⟩ := good_sl (α := Rn) Try.underlying24 (sz := 3) (by kernel_rfl) ruC Rw (fun _ => rfl) (fun fu cs hg => by
    have hf := good_fits fu 5 31 [some .i64, some .i64, some .i64] cs (by kernel_rfl) hg
    obtain ⟨x, r, rfl, ⟨a, rfl, ha⟩, hf2⟩ := hf.cons
    obtain ⟨x2, r2, rfl, ⟨a2, rfl, ha2⟩, hf3⟩ := hf2.cons
    obtain ⟨x3, r3, rfl, ⟨a3, rfl, ha3⟩, hf4⟩ := hf3.cons
    rw [hf4.nil]
    have cv : ∀ {z : Int}, (Lit.int .i64 z).wf = true → I64 z := fun {z} hz => by
      simp [Lit.wf, IntKind.min, IntKind.max, IntKind.signed, IntKind.bits] at hz
      unfold I64; omega
    exact ⟨(a, a2, a3), rfl, cv ha, cv ha2, cv ha3⟩) h
  exact ⟨l, h1, h2⟩
set_option maxHeartbeats 4000000 in
set_option maxRecDepth 100000 in
theorem finds_walk (l : List Rn) (v : Value) (i a b : Int) (w : World) (hi : I64 i) (ha : I64 a) (hb : I64 b) (hl : Rus w v l) (hw : ∀ r ∈ l, Rw r) :
    Calls Try.prog 4 #[v, .int .i64 i, .int .i64 a, .int .i64 b] w fun e w' => e = .returned (.bool true) ∧ Below w.heap.size w w' := by
  obtain ⟨x, cap, rfl, _⟩ := SlR.shape hl
  have HL := Lib.hid hl
  have HW := Lib.hid (cut300_rw hw)
  have HI := Lib.hid hi
  have HA := Lib.hid ha
  have HBB := Lib.hid hb
  clear hl hw hi ha hb
  have HB := Lib.hid (Below.refl w.heap.size w)
  go_enter Try.func4, Try.ntmps4
  go_wp2_with fail
  refine (wakes_any w).mono ?_
  rintro e w1 ⟨rfl, hb⟩
  replace HB := Lib.hid (HB.out.trans (hb.mono HB.out.size))
  replace HL := Lib.hid (HL.out.keep hb)
  clear hb
  go_wp2_with fail
  refine (own_any l _ w1 HL.out).mono ?_
  rintro e w2 ⟨u, rfl, hu, hb⟩
  replace HB := Lib.hid (HB.out.trans (hb.mono HB.out.size))
  replace HL := Lib.hid (HL.out.keep hb)
  clear hb
  have HU : Hid (Rus w2 u (cut300 l)) := Lib.hid (own_rus hu)
  clear hu
  generalize cut300 l = L at *
  obtain ⟨ux, uc, rfl, _, _⟩ := SlR.shape HU.out
  obtain ⟨av, hav⟩ : ∃ r, atP L i = r := ⟨_, rfl⟩
  obtain ⟨fv, hfv⟩ : ∃ r, findP L a = r := ⟨_, rfl⟩
  obtain ⟨cv, hcv⟩ : ∃ r, clipP L a b = r := ⟨_, rfl⟩
  have HAV := Lib.hid hav
  have HFV := Lib.hid hfv
  have HCC := Lib.hid hcv
  clear hav hfv hcv
  go_wp2_with fail
  refine (at_any L _ i w2 HI.out HU.out HW.out).mono ?_
  rintro e w3 ⟨rfl, hb⟩
  replace HB := Lib.hid (HB.out.trans (hb.mono HB.out.size))
  replace HU := Lib.hid (HU.out.keep hb)
  clear hb
  rw [HAV.out]
  go_wp2_with fail
  refine (find_any L _ a w3 HA.out HU.out HW.out).mono ?_
  rintro e w4 ⟨rfl, hb⟩
  replace HB := Lib.hid (HB.out.trans (hb.mono HB.out.size))
  replace HU := Lib.hid (HU.out.keep hb)
  clear hb
  rw [HFV.out]
  go_wp2_with fail
  refine (clip_any L _ a b w4 HA.out HBB.out HU.out HW.out).mono ?_
  rintro e w5 ⟨rfl, hb⟩
  replace HB := Lib.hid (HB.out.trans (hb.mono HB.out.size))
  replace HU := Lib.hid (HU.out.keep hb)
  clear hb
  rw [HCC.out]
  go_wp2_with fail
  refine (rRight_any L _ w5 HU.out HW.out).mono ?_
  rintro e w6 ⟨rfl, hb⟩
  replace HB := Lib.hid (HB.out.trans (hb.mono HB.out.size))
  replace HU := Lib.hid (HU.out.keep hb)
  clear hb
  obtain ⟨rb, hrb⟩ : ∃ b, risesB L = b := ⟨_, rfl⟩
  rw [hrb]
  have HRB := Lib.hid hrb
  clear hrb
  cases rb
  · have h1 := HAV.out
    have h2 := HFV.out
    have h3 := HCC.out
    rw [atP, if_pos HRB.out] at h1
    rw [findP, if_pos HRB.out] at h2
    rw [clipP, if_pos HRB.out] at h3
    subst h1
    subst h2
    subst h3
    go_wp2_with fail
    go_ret
    exact ⟨rfl, HB.out⟩
  · have h1 := HAV.out
    have h2 := HFV.out
    have h3 := HCC.out
    rw [atP, if_neg (by rw [HRB.out]; decide)] at h1
    rw [findP, if_neg (by rw [HRB.out]; decide)] at h2
    rw [clip_doc HRB.out] at h3
    go_wp2_with fail
    refine (rTimes_any L _ w6 HU.out HW.out).mono ?_
    rintro e w7 ⟨t, rfl, ht, hb⟩
    replace HB := Lib.hid (HB.out.trans (hb.mono HB.out.size))
    replace HU := Lib.hid (HU.out.keep hb)
    clear hb
    have HT := Lib.hid (own_tms ht)
    obtain ⟨tx, tc, rfl, _, _⟩ := SlR.shape HT.out
    clear ht
    have htl := (times_len HRB.out).2
    have htl2 := (times_len HRB.out).1
    rw [timesD_rises HRB.out] at HT
    rw [timesD_rises HRB.out]
    obtain ⟨T, hT⟩ : ∃ T, times L = T := ⟨_, rfl⟩
    rw [hT] at h1 h2 h3 HT htl2
    rw [hT]
    have htl : (T.length : Int) ≤ 256 := by omega
    have HAT := Lib.hid h1
    have HFI := Lib.hid h2
    have HCV : Hid (cv = ((nBelow a T : Int), max (nBelow a T : Int) (nUpto b T : Int))) := Lib.hid h3.symm
    clear h1 h2 h3 htl2 hT HAV HFV HCC HU
    by_cases hi0 : i < 0
    · have h := HAT.out
      rw [if_pos hi0] at h
      subst h
      clear HAT
      go_wp2_with fail
      refine (rBelow_any T _ a w7 HT.out).mono ?_
      rintro e w8 ⟨rfl, hb⟩
      replace HB := Lib.hid (HB.out.trans (hb.mono HB.out.size))
      replace HT := Lib.hid (HT.out.keep hb)
      clear hb
      go_upto_region 16 with (fail)
      obtain ⟨n, hn⟩ : ∃ n, nBelow a T = n := ⟨_, rfl⟩
      have hnl : n ≤ T.length := by rw [← hn]; exact nBelow_le a T
      have hfi := HFI.out
      rw [hn] at hfi
      have HC2 : Hid (cv = ((n : Int), max (n : Int) (nUpto b T : Int))) := Lib.hid (by rw [← hn]; exact HCV.out)
      rw [hn]
      have HF2 := Lib.hid hfi
      clear hfi HFI HCV hn
      by_cases hnt : n < T.length
      · obtain ⟨tb, to2, cap', hve, _, _, _, _⟩ := SlR.pos HT.out (by decide) (by omega)
        simp only [Value.slice.injEq, true_and] at hve
        obtain ⟨rfl, rfl⟩ := hve
        have hcs := tms_at HT.out hnt
        rw [Int.toNat_natCast, Nat.mul_one] at hcs
        have hf := HF2.out
        rw [List.getElem?_eq_getElem hnt] at hf
        obtain ⟨u, hu⟩ : ∃ u, T[n]'hnt = u := ⟨_, rfl⟩
        rw [hu] at hcs hf
        clear hu HF2
        by_cases hua : u = a
        · rw [if_pos (by rw [hua])] at hf
          have hub : (u == a) = true := by simp [hua]
          clear hua
          have hc := HC2.out
          subst hf
          subst hc
          go_wp2_with fail
          refine (rUpto_any T _ b w8 HT.out).mono ?_
          rintro e w9 ⟨rfl, hb⟩
          replace HB := Lib.hid (HB.out.trans (hb.mono HB.out.size))
          replace HT := Lib.hid (HT.out.keep hb)
          clear hb
          go_wp2_with fail
          all_goals
            go_ret
            exact ⟨by first | rfl | (simp; omega), HB.out⟩
        · rw [if_neg (by simpa using hua)] at hf
          have hub : (u == a) = false := by simpa using hua
          clear hua
          have hc := HC2.out
          subst hf
          subst hc
          go_wp2_with fail
          refine (rUpto_any T _ b w8 HT.out).mono ?_
          rintro e w10 ⟨rfl, hb⟩
          replace HB := Lib.hid (HB.out.trans (hb.mono HB.out.size))
          replace HT := Lib.hid (HT.out.keep hb)
          clear hb
          go_wp2_with fail
          all_goals
            go_ret
            exact ⟨by first | rfl | (simp; omega), HB.out⟩
      · have hf := HF2.out
        rw [List.getElem?_eq_none (by omega), if_neg (by simp)] at hf
        have hc := HC2.out
        subst hf
        subst hc
        clear HF2 HC2
        go_wp2_with fail
        refine (rUpto_any T _ b w8 HT.out).mono ?_
        rintro e w11 ⟨rfl, hb⟩
        replace HB := Lib.hid (HB.out.trans (hb.mono HB.out.size))
        replace HT := Lib.hid (HT.out.keep hb)
        clear hb
        go_wp2_with fail
        all_goals
          go_ret
          exact ⟨by first | rfl | (simp; omega), HB.out⟩
    by_cases hil : i ≥ (T.length : Int)
    · have h := HAT.out
      rw [if_neg hi0, List.getElem?_eq_none (by omega)] at h
      simp only at h
      subst h
      clear HAT
      go_wp2_with fail
      refine (rBelow_any T _ a w7 HT.out).mono ?_
      rintro e w12 ⟨rfl, hb⟩
      replace HB := Lib.hid (HB.out.trans (hb.mono HB.out.size))
      replace HT := Lib.hid (HT.out.keep hb)
      clear hb
      go_upto_region 16 with (fail)
      obtain ⟨n, hn⟩ : ∃ n, nBelow a T = n := ⟨_, rfl⟩
      have hnl : n ≤ T.length := by rw [← hn]; exact nBelow_le a T
      have hfi := HFI.out
      rw [hn] at hfi
      have HC2 : Hid (cv = ((n : Int), max (n : Int) (nUpto b T : Int))) := Lib.hid (by rw [← hn]; exact HCV.out)
      rw [hn]
      have HF2 := Lib.hid hfi
      clear hfi HFI HCV hn
      by_cases hnt : n < T.length
      · obtain ⟨tb, to2, cap', hve, _, _, _, _⟩ := SlR.pos HT.out (by decide) (by omega)
        simp only [Value.slice.injEq, true_and] at hve
        obtain ⟨rfl, rfl⟩ := hve
        have hcs := tms_at HT.out hnt
        rw [Int.toNat_natCast, Nat.mul_one] at hcs
        have hf := HF2.out
        rw [List.getElem?_eq_getElem hnt] at hf
        obtain ⟨u, hu⟩ : ∃ u, T[n]'hnt = u := ⟨_, rfl⟩
        rw [hu] at hcs hf
        clear hu HF2
        by_cases hua : u = a
        · rw [if_pos (by rw [hua])] at hf
          have hub : (u == a) = true := by simp [hua]
          clear hua
          have hc := HC2.out
          subst hf
          subst hc
          go_wp2_with fail
          refine (rUpto_any T _ b w12 HT.out).mono ?_
          rintro e w13 ⟨rfl, hb⟩
          replace HB := Lib.hid (HB.out.trans (hb.mono HB.out.size))
          replace HT := Lib.hid (HT.out.keep hb)
          clear hb
          go_wp2_with fail
          all_goals
            go_ret
            exact ⟨by first | rfl | (simp; omega), HB.out⟩
        · rw [if_neg (by simpa using hua)] at hf
          have hub : (u == a) = false := by simpa using hua
          clear hua
          have hc := HC2.out
          subst hf
          subst hc
          go_wp2_with fail
          refine (rUpto_any T _ b w12 HT.out).mono ?_
          rintro e w14 ⟨rfl, hb⟩
          replace HB := Lib.hid (HB.out.trans (hb.mono HB.out.size))
          replace HT := Lib.hid (HT.out.keep hb)
          clear hb
          go_wp2_with fail
          all_goals
            go_ret
            exact ⟨by first | rfl | (simp; omega), HB.out⟩
      · have hf := HF2.out
        rw [List.getElem?_eq_none (by omega), if_neg (by simp)] at hf
        have hc := HC2.out
        subst hf
        subst hc
        clear HF2 HC2
        go_wp2_with fail
        refine (rUpto_any T _ b w12 HT.out).mono ?_
        rintro e w15 ⟨rfl, hb⟩
        replace HB := Lib.hid (HB.out.trans (hb.mono HB.out.size))
        replace HT := Lib.hid (HT.out.keep hb)
        clear hb
        go_wp2_with fail
        all_goals
          go_ret
          exact ⟨by first | rfl | (simp; omega), HB.out⟩
    · obtain ⟨j, rfl⟩ : ∃ j : Nat, i = (j : Int) := ⟨i.toNat, by omega⟩
      have hj : j < T.length := by omega
      have h := HAT.out
      rw [if_neg hi0, Int.toNat_natCast, List.getElem?_eq_getElem hj] at h
      simp only at h
      obtain ⟨jb, jo, jcap, hve, _, _, _, _⟩ := SlR.pos HT.out (by decide) (by omega)
      simp only [Value.slice.injEq, true_and] at hve
      obtain ⟨rfl, rfl⟩ := hve
      have hcj := tms_at HT.out hj
      rw [Int.toNat_natCast, Nat.mul_one] at hcj
      obtain ⟨uj, huj⟩ : ∃ u, T[j]'hj = u := ⟨_, rfl⟩
      rw [huj] at h hcj
      clear huj
      subst h
      have hjj : (uj != uj) = false := by simp
      go_upto_region 15 with (fail)
      clear hcj hjj
      clear HAT
      go_wp2_with fail
      refine (rBelow_any T _ a w7 HT.out).mono ?_
      rintro e w16 ⟨rfl, hb⟩
      replace HB := Lib.hid (HB.out.trans (hb.mono HB.out.size))
      replace HT := Lib.hid (HT.out.keep hb)
      clear hb
      go_upto_region 16 with (fail)
      obtain ⟨n, hn⟩ : ∃ n, nBelow a T = n := ⟨_, rfl⟩
      have hnl : n ≤ T.length := by rw [← hn]; exact nBelow_le a T
      have hfi := HFI.out
      rw [hn] at hfi
      have HC2 : Hid (cv = ((n : Int), max (n : Int) (nUpto b T : Int))) := Lib.hid (by rw [← hn]; exact HCV.out)
      rw [hn]
      have HF2 := Lib.hid hfi
      clear hfi HFI HCV hn
      by_cases hnt : n < T.length
      · have hcs := tms_at HT.out hnt
        rw [Int.toNat_natCast, Nat.mul_one] at hcs
        have hf := HF2.out
        rw [List.getElem?_eq_getElem hnt] at hf
        obtain ⟨u, hu⟩ : ∃ u, T[n]'hnt = u := ⟨_, rfl⟩
        rw [hu] at hcs hf
        clear hu HF2
        by_cases hua : u = a
        · rw [if_pos (by rw [hua])] at hf
          have hub : (u == a) = true := by simp [hua]
          clear hua
          have hc := HC2.out
          subst hf
          subst hc
          go_wp2_with fail
          refine (rUpto_any T _ b w16 HT.out).mono ?_
          rintro e w17 ⟨rfl, hb⟩
          replace HB := Lib.hid (HB.out.trans (hb.mono HB.out.size))
          replace HT := Lib.hid (HT.out.keep hb)
          clear hb
          go_wp2_with fail
          all_goals
            go_ret
            exact ⟨by first | rfl | (simp; omega), HB.out⟩
        · rw [if_neg (by simpa using hua)] at hf
          have hub : (u == a) = false := by simpa using hua
          clear hua
          have hc := HC2.out
          subst hf
          subst hc
          go_wp2_with fail
          refine (rUpto_any T _ b w16 HT.out).mono ?_
          rintro e w18 ⟨rfl, hb⟩
          replace HB := Lib.hid (HB.out.trans (hb.mono HB.out.size))
          replace HT := Lib.hid (HT.out.keep hb)
          clear hb
          go_wp2_with fail
          all_goals
            go_ret
            exact ⟨by first | rfl | (simp; omega), HB.out⟩
      · have hf := HF2.out
        rw [List.getElem?_eq_none (by omega), if_neg (by simp)] at hf
        have hc := HC2.out
        subst hf
        subst hc
        clear HF2 HC2
        go_wp2_with fail
        refine (rUpto_any T _ b w16 HT.out).mono ?_
        rintro e w19 ⟨rfl, hb⟩
        replace HB := Lib.hid (HB.out.trans (hb.mono HB.out.size))
        replace HT := Lib.hid (HT.out.keep hb)
        clear hb
        go_wp2_with fail
        all_goals
          go_ret
          exact ⟨by first | rfl | (simp; omega), HB.out⟩
theorem RunsFinds_walk (v : Value) (f : Nat) (i a b : Int) (w : World) (h : Agg.Good Try.prog w f 24 [v]) (hi : (Lit.int .i64 i).wf = true) (ha : (Lit.int .i64 a).wf = true) (hb : (Lit.int .i64 b).wf = true) :
    Calls Try.prog 4 #[v, .int .i64 i, .int .i64 a, .int .i64 b] w fun e w' => e = .returned (.bool true) ∧ Below w.heap.size w w' := by
  obtain ⟨l, h1, h2⟩ := good_runs h
  have cv : ∀ {z : Int}, (Lit.int .i64 z).wf = true → I64 z := fun {z} hz => by
    simp [Lit.wf, IntKind.min, IntKind.max, IntKind.signed, IntKind.bits] at hz
    unfold I64; omega
  exact finds_walk l v i a b w (cv hi) (cv ha) (cv hb) h1 h2
end Go.Proofs.Ytpligbfajnjklaa
end
