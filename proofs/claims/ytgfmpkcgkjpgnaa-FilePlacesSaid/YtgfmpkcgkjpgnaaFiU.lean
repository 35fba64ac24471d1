/-
  THE WALK OF LAYER 20's STATEMENT FilePlaces.
-/
import Derived.Test.YtgfmpkcgkjpgnaaFdDw3
namespace Go.Proofs.Ytgfmpkcgkjpgnaa
open Go.ChangeShapes Go.WideShapes Go.ChangeAt Go.RowKit Agg Pg Dv Fi
attribute [local go_sem] Oper.semAt_some

set_option maxHeartbeats 4000000 in
set_option maxRecDepth 100000 in
theorem places_walk (l : List Int) (v : Value) (pages n : Int) (w : World) (hp1 : -9223372036854775808 ≤ pages) (hp2 : pages ≤ 9223372036854775807) (hn1 : -9223372036854775808 ≤ n) (hn2 : n ≤ 9223372036854775807) (hv : Ints w v l) :
    Calls Try.prog 4 #[v, .int .i64 pages, .int .i64 n] w fun e w' => e = .returned (.bool true) ∧ Below w.heap.size w w' := by
  obtain ⟨x, cap, rfl, hc, _⟩ := SlR.shape hv
  have HL := Lib.hid hv
  clear hv
  obtain ⟨m, hmd⟩ : ∃ m, m = min l.length 300 := ⟨_, rfl⟩
  have hm1 : m ≤ l.length := by omega
  have hm2 : m ≤ 300 := by omega
  have hme : min (l.length : Int) 300 = (m : Int) := by omega
  have hmc : (m : Int) ≤ cap := by omega
  have hle : (l.take m).length = m := by rw [List.length_take]; omega
  have HT0 := Lib.hid (ints_pre HL.out m hm1)
  clear hmd HL
  obtain ⟨U, hU⟩ : ∃ U, l.take m = U := ⟨_, rfl⟩
  rw [hU] at hle HT0
  subst hle
  clear hU
  have HB := Lib.hid (Below.refl w.heap.size w)
  go_enter Try.func4, Try.ntmps4
  go_wp2_with fail
  refine (wakes_any w).mono ?_
  rintro e w1 ⟨rfl, hb⟩
  replace HB := Lib.hid (HB.out.trans (hb.mono HB.out.size))
  replace HT0 := Lib.hid (HT0.out.keep hb)
  clear hb
  go_wp2_with (refine Agg.min2 _ _ _ (U.length : Int) rfl rfl rfl rfl hme ?_; simp only [Act.put, List.setIfInBounds_toArray, List.set_cons_succ, List.set_cons_zero])
  refine (cloneI_any U _ w1 HT0.out (by omega)).mono ?_
  rintro e w2 ⟨u, rfl, hu, hb⟩
  replace HB := Lib.hid (HB.out.trans (hb.mono HB.out.size))
  replace HT0 := Lib.hid (HT0.out.keep hb)
  clear hb
  have HU := Lib.hid (ownSl hu)
  obtain ⟨ux, uc, rfl, _, _⟩ := (ownSl hu).shape
  clear hu hme
  obtain ⟨C, hC⟩ : ∃ C, freeL U pages = C := ⟨_, rfl⟩
  have hf := fun W (v : Value) hW => Free_any U v pages W hW
  have hrf := fun W (v : Value) hW => rFree_any U v pages W hp1 hp2 hW
  obtain ⟨⟨T, er⟩, hT⟩ : ∃ r, takeL U pages n = r := ⟨_, rfl⟩
  have HTK := Lib.hid hT
  have HC := Lib.hid hC
  rw [hC] at hf hrf
  have HF := Lib.hid hf
  have HRF := Lib.hid hrf
  clear hC hT hf hrf
  have HND := Lib.hid (fun W => need_any n hn1 hn2 W)
  have HRN := Lib.hid (fun (h : n ≤ 40000) W => rneed_any n hn1 h W)
  obtain ⟨nd, hnd⟩ : ∃ k, needN n = k := ⟨_, rfl⟩
  rw [hnd] at HND HRN
  clear hnd
  go_upto_region 4 with (fail)
  have HT0w := HT0
  have HUw := HU
  have HBw := HB
  obtain ⟨wC, hwC⟩ : ∃ x, x = w2 := ⟨_, rfl⟩
  subst hwC
  go_cut [28] from 20 to 28 (fun s wx => s = .bool false ∧ Below wC.heap.size wC wx)
  case first =>
    have HB := Lib.hid (Below.refl wC.heap.size wC)
    by_cases h4 : n < 40000
    · have h40 := HRN.out (by omega)
      refine Agg.listR 9 (by kernel_rfl) ?_
      simp only [List.take_succ_cons, List.take_zero, List.drop_succ_cons, List.drop_zero]
      refine Agg.chMove rfl rfl rfl rfl ?_
      refine Agg.chLt true (decide_eq_true h4) rfl rfl rfl rfl rfl ?_
      refine Agg.chMove rfl rfl rfl rfl ?_
      refine Agg.chMove rfl rfl rfl rfl ?_
      refine Agg.chCall Try.func16 rfl (by kernel_rfl) rfl rfl rfl rfl (fun W hb => HND.out W) ?_
      refine Agg.chMove rfl rfl rfl rfl ?_
      refine Agg.chCall Try.func17 rfl (by kernel_rfl) rfl rfl rfl rfl (fun W hb => h40 W) ?_
      refine Agg.chNe false (by simp) rfl rfl rfl rfl rfl ?_
      refine Agg.chPick rfl rfl rfl rfl rfl ?_
      refine Agg.chEnd ?_
      intro vs w31 hb _
      show Exit.then _ _ Exit.normal _ _
      simp only [List.reverse, List.reverseAux, Agg.fill, List.set_cons_succ, List.set_cons_zero]
      replace HB := Lib.hid (HB.out.trans (hb.mono HB.out.size))
      clear hb
      go_wp2_with fail
      go_meet
      exact ⟨rfl, HB.out⟩
    · have h4b := h4
      refine Agg.listR 9 (by kernel_rfl) ?_
      simp only [List.take_succ_cons, List.take_zero, List.drop_succ_cons, List.drop_zero]
      refine Agg.chMove rfl rfl rfl rfl ?_
      refine Agg.chLt false (decide_eq_false h4) rfl rfl rfl rfl rfl ?_
      refine Agg.chMove rfl rfl rfl rfl ?_
      refine Agg.chSkip rfl rfl ?_
      refine Agg.chSkip rfl rfl ?_
      refine Agg.chSkip rfl rfl ?_
      refine Agg.chSkip rfl rfl ?_
      refine Agg.chSkip rfl rfl ?_
      refine Agg.chPick rfl rfl rfl rfl rfl ?_
      refine Agg.chEnd ?_
      intro vs w31 hb _
      show Exit.then _ _ Exit.normal _ _
      simp only [List.reverse, List.reverseAux, Agg.fill, List.set_cons_succ, List.set_cons_zero]
      replace HB := Lib.hid (HB.out.trans (hb.mono HB.out.size))
      clear hb
      go_wp2_with fail
      go_meet
      exact ⟨rfl, HB.out⟩
  case rest =>
    obtain ⟨rfl, hwx⟩ := hcut
    have HT0 := Lib.hid (SlR.keep HT0w.out hwx)
    have HU := Lib.hid (SlR.keep HUw.out hwx)
    have HB := Lib.hid (HBw.out.trans (hwx.mono HBw.out.size))
    clear hwx HT0w HUw HBw HND HRN
    go_wp2_with fail
    refine (HF.out wc _ HU.out).mono ?_
    rintro e w41 ⟨u2, rfl, hu2, hb⟩
    replace HB := Lib.hid (HB.out.trans (hb.mono HB.out.size))
    replace HT0 := Lib.hid (HT0.out.keep hb)
    replace HU := Lib.hid (HU.out.keep hb)
    clear hb
    have HCC := Lib.hid (ints_of (ownSl hu2))
    obtain ⟨cx, cc, rfl, _, _⟩ := (ownSl hu2).shape
    clear hu2
    go_wp2_with fail
    refine (HRF.out w41 _ HU.out).mono ?_
    rintro e w42 ⟨u3, rfl, hu3, hb⟩
    replace HB := Lib.hid (HB.out.trans (hb.mono HB.out.size))
    replace HT0 := Lib.hid (HT0.out.keep hb)
    replace HU := Lib.hid (HU.out.keep hb)
    replace HCC := Lib.hid (HCC.out.keep hb)
    clear hb
    have HCD := Lib.hid (ints_of (ownSl hu3))
    obtain ⟨dx, dc, rfl, hdc, hdm⟩ := (ownSl hu3).shape
    clear hu3 HF HRF
    go_wp2_with fail
    refine (eqI_any (toI C) (toI C) _ _ w42 HCC.out HCD.out true (by simp)).mono ?_
    rintro e w43 ⟨rfl, hb⟩
    replace HB := Lib.hid (HB.out.trans (hb.mono HB.out.size))
    replace HT0 := Lib.hid (HT0.out.keep hb)
    replace HU := Lib.hid (HU.out.keep hb)
    replace HCC := Lib.hid (HCC.out.keep hb)
    replace HCD := Lib.hid (HCD.out.keep hb)
    clear hb
    clear HCC
    go_wp2_with fail
    refine (eqI_any U U _ _ w43 HU.out HT0.out true (by simp)).mono ?_
    rintro e w44 ⟨rfl, hb⟩
    replace HB := Lib.hid (HB.out.trans (hb.mono HB.out.size))
    replace HT0 := Lib.hid (HT0.out.keep hb)
    replace HU := Lib.hid (HU.out.keep hb)
    replace HCD := Lib.hid (HCD.out.keep hb)
    clear hb
    clear HT0
    go_wp2_with fail
    refine (Take_any U _ pages n w44 HU.out T er HTK.out).mono ?_
    rintro e w45 ⟨u4, rfl, hu4, hb⟩
    replace HB := Lib.hid (HB.out.trans (hb.mono HB.out.size))
    replace HU := Lib.hid (HU.out.keep hb)
    replace HCD := Lib.hid (HCD.out.keep hb)
    clear hb
    have HTT := Lib.hid hu4
    have hsh := SlR.shape hu4
    rw [toI_length] at hsh
    obtain ⟨tx, tc, rfl, htc, htm⟩ := hsh
    clear hu4 HU
    obtain ⟨q, hq⟩ : ∃ q, sizeB pages = q := ⟨_, rfl⟩
    have HQ := Lib.hid hq
    clear hq
    go_wp2_with fail
    refine (rpages_any pages w45 q HQ.out).mono ?_
    rintro e w46 ⟨rfl, hb⟩
    replace HB := Lib.hid (HB.out.trans (hb.mono HB.out.size))
    replace HCD := Lib.hid (HCD.out.keep hb)
    replace HTT := Lib.hid (HTT.out.keep hb)
    clear hb
    by_cases hbad : q = false ∨ n < 0
    · have ht := HTK.out
      rw [takeL_bad (by rw [HQ.out]; exact hbad)] at ht
      simp only [Prod.mk.injEq] at ht
      obtain ⟨rfl, rfl⟩ := ht
      cases q
      · go_wp2_with fail
        go_ret
        exact ⟨rfl, HB.out⟩
      · have h1 : n < 0 := hbad.resolve_left (by decide)
        clear hbad
        go_wp2_with fail
        go_ret
        exact ⟨rfl, HB.out⟩
    · have hqt : q = true := by cases q with | true => rfl | false => exact absurd (.inl rfl) hbad
      have hn0 : ¬ n < 0 := fun h => hbad (.inr h)
      subst hqt
      clear hbad
      by_cases hfew : (C.length : Int) < n
      · have ht := HTK.out
        rw [takeL_few HQ.out hn0 (by rw [HC.out]; exact hfew)] at ht
        simp only [Prod.mk.injEq] at ht
        obtain ⟨rfl, rfl⟩ := ht
        have h5 : n > (C.length : Int) := hfew
        go_wp2_with fail
        go_ret
        exact ⟨rfl, HB.out⟩
      · have ht := HTK.out
        rw [takeL_ok HQ.out hn0 (by rw [HC.out]; exact hfew), HC.out] at ht
        simp only [Prod.mk.injEq] at ht
        obtain ⟨ht1, rfl⟩ := ht
        obtain ⟨k, rfl⟩ : ∃ k : Nat, n = (k : Int) := ⟨n.toNat, by omega⟩
        rw [Int.toNat_natCast] at ht1
        have hkc : k ≤ C.length := by omega
        have hkd : (k : Int) ≤ dc := by omega
        have hlt : T.length = k := by rw [← ht1, List.length_take]; omega
        subst hlt
        have HK : Hid (Ints w46 (.slice dx T.length dc) (toI T)) := Lib.hid (by have h := ints_take HCD.out T.length dc hkc (by omega) (Nat.le_refl _); rw [ht1] at h; exact h)
        clear ht1 HTK
        have hfw : ¬ (T.length : Int) > C.length := by omega
        go_wp2_with fail
        refine (eqI_any (toI T) (toI T) _ _ w46 HTT.out HK.out true (by simp)).mono ?_
        rintro e w47 ⟨rfl, hb⟩
        replace HB := Lib.hid (HB.out.trans (hb.mono HB.out.size))
        replace HTT := Lib.hid (HTT.out.keep hb)
        replace HK := Lib.hid (HK.out.keep hb)
        clear hb
        go_wp2_with fail
        go_ret
        exact ⟨rfl, HB.out⟩
theorem FilePlaces_walk (v : Value) (f : Nat) (a b : Int) (w : World) (h : Agg.Good Try.prog w f 22 [v]) (ha : (Lit.int .i64 a).wf = true) (hb : (Lit.int .i64 b).wf = true) :
    Calls Try.prog 4 #[v, .int .i64 a, .int .i64 b] w fun e w' => e = .returned (.bool true) ∧ Below w.heap.size w w' := by
  obtain ⟨l, h1, _, _⟩ := good_ints h
  have cv : ∀ {z : Int}, (Lit.int .i64 z).wf = true → -9223372036854775808 ≤ z ∧ z ≤ 9223372036854775807 := fun {z} hz => by
    simp [Lit.wf, IntKind.min, IntKind.max, IntKind.signed, IntKind.bits] at hz
    omega
  exact places_walk l v a b w (cv ha).1 (cv ha).2 (cv hb).1 (cv hb).2 h1
end Go.Proofs.Ytgfmpkcgkjpgnaa
