/-
  THE WALK OF LAYER 4's STATEMENT SpanAdds.
-/
import Derived.Test.YtcedalenjcbnmaaSpanP2
import Derived.Test.YtcedalenjcbnmaaSpanL3
import Derived.Test.YtcedalenjcbnmaaEq
import Derived.Laws.OwnMore
import Derived.Maps.AppendAt
namespace Go.Proofs.Ytcedalenjcbnmaa
open Go.ChangeShapes Go.WideShapes Go.ChangeAt Go.RowKit Agg

theorem tiG : TI Try.prog 22 33 3 24 (.agg #[.int .i64 0, .int .i64 0, .int .u64 0]) := ⟨by kernel_rfl, by kernel_rfl, rfl, by decide⟩
theorem small_any (n : Int) (w : World) :
    Calls Try.prog 13 #[.int .i64 n] w fun e w' => e = .returned (.int .i64 (smZ n)) ∧ Below w.heap.size w w' := by
  have HB := Lib.hid (Below.refl w.heap.size w)
  go_enter Try.func13, Try.ntmps13
  go_wp2_with fail
  go_ret
  exact ⟨rfl, HB.out⟩
theorem gss_cell {w : World} {x : Option Addr} {n cap : Nat} {l : List Gs} (h : Gss w (.slice x n cap) l) (hl : 0 < l.length) : ∃ b o, x = some ⟨b, o, none⟩ ∧ w.cell? ⟨b, o + 2, none⟩ = some (.int .u64 l[0].2) := by
  obtain ⟨b, o, rfl, _, _, h3, _⟩ := h.at hl
  exact ⟨b, o, rfl, by simpa using h3⟩
theorem flat_span : Flat Try.prog 3 31 [some .i64, some .i64] := ⟨by kernel_rfl, by kernel_rfl, by kernel_rfl, by kernel_rfl, by decide, by kernel_rfl⟩
theorem fits_span {a b : Int} (ha : I64 a) (hb : I64 b) : Fits [some .i64, some .i64] [.int .i64 a, .int .i64 b] := by
  refine ⟨⟨a, rfl, ?_⟩, ⟨b, rfl, ?_⟩, trivial⟩
  · unfold I64 at ha; simp [Lit.wf, IntKind.min, IntKind.max, IntKind.signed, IntKind.bits]; omega
  · unfold I64 at hb; simp [Lit.wf, IntKind.min, IntKind.max, IntKind.signed, IntKind.bits]; omega
theorem timesR_in {s : Sp} {n : Int} {r : Sp} {e : Int} (h : timesR s n = (r, e)) : I64 r.1 ∧ I64 r.2 := by
  unfold timesR at h
  split at h
  · cases h; unfold I64; simp
  · split at h
    · rename_i hf
      simp only [Bool.and_eq_true, fitB_true] at hf
      cases h
      unfold I64 at *; simp only; omega
    · cases h; unfold I64; simp
/-- the first loop, ahead of round k -/
def AddsI (b0 : Nat) (xa : Option Addr) (cl : Nat) (A L : List Sp) (V : List Int) (i v sm wd : Value) (wr : World) : Prop := ∃ k : Nat, k ≤ L.length ∧ i = .int .i64 k ∧ sm = .int .i64 (sumV V k) ∧ wd = .int .u64 (widS A k) ∧
  wr.ownsRow b0 31 2 (.slice xa L.length cl) L.length (spC (mix A L k)) ∧ wr.ownsRow b0 2 1 v k (iC (V.take k))
theorem iC_succ (V : List Int) (k : Nat) (h : k < V.length) : iC (V.take k) ++ [.int .i64 V[k]] = iC (V.take (k + 1)) := by
  unfold iC
  rw [List.take_succ_eq_append_getElem h, List.map_append]; rfl
set_option maxHeartbeats 8000000 in
set_option maxRecDepth 100000 in
theorem adds_any (l : List Gs) (v : Value) (n : Int) (w : World) (hv : Gss w v l) (hl : ∀ g ∈ l, GsOk g) (hn : I64 n) :
    Calls Try.prog 3 #[v, .int .i64 n] w fun e w' => e = .returned (.bool true) ∧ Below w.heap.size w w' := by
  have HL := Lib.hid hl
  obtain ⟨xx, cx, rfl, _, hmx⟩ := hv.shape
  have HV := Lib.hid hv
  have HVw := Lib.hid hv
  clear hv hl
  have HB := Lib.hid (Below.refl w.heap.size w)
  go_enter Try.func3, Try.ntmps3
  go_wp2_with fail
  refine (wakes_any w).mono ?_
  rintro e w1 ⟨rfl, hb⟩
  replace HB := Lib.hid (HB.out.trans (hb.mono HB.out.size))
  replace HV := Lib.hid (HV.out.keep hb)
  clear hb
  go_wp2_with fail
  have hsz := HB.out.size
  refine (guesses_any l _ w1 HV.out HL.out).mono ?_
  rintro e w2 ⟨⟨sa, sb, rfl, ho1, ho2⟩, hb⟩
  replace HB := Lib.hid (HB.out.trans (hb.mono HB.out.size))
  replace HV := Lib.hid (HV.out.keep hb)
  clear hb
  replace ho1 := own_mono ho1 hsz
  clear hsz ho2
  obtain ⟨L, hL⟩ : ∃ L, L = (gsel l).map (·.1) := ⟨_, rfl⟩
  have hLn : (gsel l).length = L.length := by rw [hL]; simp
  have hL20 : L.length ≤ 20 := by rw [← hLn]; exact gsel_few l
  have hLl : 0 < L.length → 0 < l.length := by
    intro h
    rw [← hLn] at h
    have := (gsel_mem l _ (List.getElem_mem h)).1
    exact List.length_pos_of_mem this
  rw [← hL, hLn] at ho1
  obtain ⟨A, hA⟩ : ∃ A, A = L.map smS := ⟨_, rfl⟩
  have hAL : A.length = L.length := by rw [hA]; simp
  have hAk : ∀ k (h : k < L.length) (h' : k < A.length), A[k] = smS L[k] := by intro k h h'; subst hA; simp
  have hAo : ∀ s ∈ A, SmOk s := by
    rw [hA]; intro s hs
    obtain ⟨q, _, rfl⟩ := List.mem_map.1 hs
    exact smS_ok q
  obtain ⟨t, ht⟩ : ∃ t : Int, ∀ h : 0 < l.length, t = l[0].2 := ⟨if h : 0 < l.length then l[0].2 else 0, fun h => by rw [dif_pos h]⟩
  obtain ⟨V, hV⟩ : ∃ V, V = addV t A := ⟨_, rfl⟩
  have hVA : V.length = L.length := by rw [hV, addV_length, hAL]
  obtain ⟨xa, ca, rfl, hca1, hca2⟩ := SlR.shape (ownSl ho1)
  unfold maxLen at hca2 hmx
  have HO1 := Lib.hid ho1
  have HLl := Lib.hid hLl
  have HAL := Lib.hid hAL
  have HAk := Lib.hid hAk
  have HAo := Lib.hid hAo
  have HT := Lib.hid ht
  have HVV := Lib.hid hV
  have HVA := Lib.hid hVA
  have HN := Lib.hid hn
  clear ho1 hLl hAL hAk hAo ht hV hVA hn hLn hL hA
  clear HV
  go_wp2_with fail
  go_loopw [32, 7, 8, 9] (fun i v sm wd wr => AddsI w.heap.size xa ca A L V i v sm wd wr ∧ Below w.heap.size w wr) (fun i _ _ _ _ => L.length - (intOf i).toNat)
  case atStart => exact ⟨⟨0, by omega, rfl, rfl, rfl, by rw [mix_zero]; exact HO1.out, World.ownsRow_nil _ _ _ _⟩, HB.out⟩
  case round =>
    obtain ⟨⟨k, hk, rfl, rfl, rfl, h1, h2⟩, hb⟩ := hrel
    replace HB := Lib.hid hb
    replace HO1 := Lib.hid h1
    have HO2 := Lib.hid h2
    have HVr := Lib.hid (HVw.out.keep HB.out)
    clear h1 h2 hb
    by_cases hlt : k < L.length
    · obtain ⟨g, rfl⟩ : ∃ g, xa = some ⟨g, 0, none⟩ := by
        rcases HO1.out.2 with ⟨h, h0⟩ | ⟨g, cap, cur, h, _⟩
        · omega
        · simp only [Value.slice.injEq] at h
          exact ⟨g, h.1⟩
      have hml := mix_length A L HAL.out k hk
      have hc := spC_get (mix A L k) k (by omega)
      rw [mix_get A L HAL.out k hlt] at hc
      have hc1 : wr.cell? ⟨g, 0 + (k : Int).toNat * 2 + 0, none⟩ = some (.int .i64 L[k].1) := by
        have := HO1.out.cellAt (k * 2) (by omega)
        rw [hc.1] at this; simpa using this
      have hc2 : wr.cell? ⟨g, 0 + (k : Int).toNat * 2 + 1, none⟩ = some (.int .i64 L[k].2) := by
        have := HO1.out.cellAt (k * 2 + 1) (by omega)
        rw [hc.2] at this; simpa using this
      clear hc hml
      go_upto_region 9 with (fail)
      refine Agg.chainR 14 (by kernel_rfl) (by kernel_rfl) ?_
      simp only [List.take_succ_cons, List.take_zero, List.drop_succ_cons, List.drop_zero]
      refine Agg.chMove rfl rfl rfl rfl ?_
      refine Agg.chMove rfl rfl rfl rfl ?_
      refine Agg.chIA tiS (by omega) (by omega) rfl rfl rfl rfl rfl ?_
      refine Agg.chFA (by first | exact fo_Span_0 | exact fo_Gs_0) rfl rfl rfl rfl ?_
      refine Agg.chLoad rfl rfl rfl rfl (by decide +kernel) hc1 ?_
      refine Agg.chCall Try.func13 rfl (by kernel_rfl) rfl rfl rfl rfl (fun W _ => small_any L[k].1 W) ?_
      refine Agg.chMove rfl rfl rfl rfl ?_
      refine Agg.chMove rfl rfl rfl rfl ?_
      refine Agg.chIA tiS (by omega) (by omega) rfl rfl rfl rfl rfl ?_
      refine Agg.chFA (by first | exact fo_Span_1 | exact fo_Gs_1) rfl rfl rfl rfl ?_
      refine Agg.chLoad rfl rfl rfl rfl (by decide +kernel) hc2 ?_
      refine Agg.chCall Try.func13 rfl (by kernel_rfl) rfl rfl rfl rfl (fun W _ => small_any L[k].2 W) ?_
      refine Agg.chAssign rfl rfl rfl rfl ?_
      refine Agg.chAssign rfl rfl rfl rfl ?_
      refine Agg.chEnd ?_
      intro vs w6 hb _
      refine Agg.wpNil ?_
      simp only [List.reverse, List.reverseAux, Agg.fill, List.set_cons_succ, List.set_cons_zero]
      replace HB := Lib.hid (HB.out.trans (hb.mono HB.out.size))
      replace HO1 := Lib.hid (HO1.out.keep hb)
      replace HO2 := Lib.hid (HO2.out.keep hb)
      replace HVr := Lib.hid (HVr.out.keep hb)
      clear hb
      clear hc1 hc2
      have hkA : k < A.length := by have := HAL.out; omega
      have hkV : k < V.length := by have := HVA.out; omega
      obtain ⟨⟨p, q⟩, hpq⟩ : ∃ s, s = A[k] := ⟨_, rfl⟩
      have hsm := HAk.out k hlt hkA
      rw [← hpq] at hsm
      have hpo := HAo.out _ (List.getElem_mem hkA)
      rw [← hpq] at hpo
      simp only [smS, Prod.mk.injEq] at hsm
      have HMI := Lib.hid hsm.1.symm
      have HMA := Lib.hid hsm.2.symm
      have HPQ := Lib.hid hpq
      have HPO := Lib.hid hpo
      have hml := mix_length A L HAL.out k hk
      have hc := spC_get (mix A L k) k (by omega)
      rw [mix_get A L HAL.out k hlt] at hc
      have c1 := HO1.out.cellAt (k * 2) (by omega)
      have c2 := HO1.out.cellAt (k * 2 + 1) (by omega)
      rw [hc.1] at c1
      rw [hc.2] at c2
      have f1 := HO1.out.frozenAt (k * 2)
      have f2 := HO1.out.frozenAt (k * 2 + 1)
      clear hsm hpo hpq hc hml
      go_upto_region 11 with (first | (refine Agg.min2 (.tmp 49) (.tmp 50) _ _ rfl rfl rfl rfl HMI.out ?_; simp only [Act.put, List.setIfInBounds_toArray, List.set_cons_succ, List.set_cons_zero]) | (refine Agg.max2 (.tmp 52) (.tmp 53) _ _ rfl rfl rfl rfl HMA.out ?_; simp only [Act.put, List.setIfInBounds_toArray, List.set_cons_succ, List.set_cons_zero]))
      clear c1 c2 f1 f2
      obtain ⟨s1, hg1⟩ := HO1.out.stored (k * 2) (.int .i64 p)
      obtain ⟨s2, hg2⟩ := s1.stored (k * 2 + 1) (.int .i64 q)
      have hgr := hg1.trans hg2
      clear s1 hg1 hg2
      generalize (w6.setCell ⟨g, k * 2, none⟩ (.int .i64 p)).setCell ⟨g, k * 2 + 1, none⟩ (.int .i64 q) = z1 at s2 hgr ⊢
      have hml := mix_length A L HAL.out k hk
      have hst := spC_set (mix A L k) k (by omega) (p, q)
      have hms := mix_set A L HAL.out k hlt
      rw [← HPQ.out] at hms
      simp only at hst
      rw [hst, hms] at s2
      have hap : u7.ownBlock = none ∨ u7.ownBlock ≠ some g := elem_apart HO2.out HO1.out (by decide)
      replace HB := Lib.hid (HB.out.trans (grown_below hgr HB.out.size (fun j hj => by cases hj; exact own_block HO1.out g rfl)))
      replace HO2 := Lib.hid (HO2.out.kept hgr hap)
      replace HO1 := Lib.hid s2
      have HAP := Lib.hid (elem_apart HO1.out HO2.out (by decide))
      replace HVr := Lib.hid (HVw.out.keep HB.out)
      clear s2 hgr hml hst hms hap
      obtain ⟨bx, ox, rfl, hx2⟩ := gss_cell HVr.out (HLl.out (by omega))
      rw [← HT.out (HLl.out (by omega))] at hx2
      have hc := spC_get (mix A L (k + 1)) k (by rw [mix_length A L HAL.out (k + 1) hlt]; exact hlt)
      have hmg : ∀ h, (mix A L (k + 1))[k]'h = (p, q) := by
        intro h
        rw [HPQ.out]
        simp only [mix]
        rw [List.getElem_append_left (by simp; omega)]
        simp
      rw [hmg] at hc
      have hc1 : z1.cell? ⟨g, 0 + (k : Int).toNat * 2, none⟩ = some (.int .i64 p) := by
        have := HO1.out.cellAt (k * 2) (by omega)
        rw [hc.1] at this; simpa using this
      have hc2 : z1.cell? ⟨g, 0 + (k : Int).toNat * 2 + 1, none⟩ = some (.int .i64 q) := by
        have := HO1.out.cellAt (k * 2 + 1) (by omega)
        rw [hc.2] at this; simpa using this
      clear hmg hc
      have hl0 : 0 < l.length := HLl.out (by omega)
      have HGO : Hid (GsOk ((p, q), (t + k) % 18446744073709551616)) := by
        show GsOk _
        have := HPO.out
        unfold SmOk at this
        simp only at this
        exact ⟨by unfold I64; simp only; omega, by unfold I64; simp only; omega, Int.emod_nonneg _ (by decide), Int.emod_lt_of_pos _ (by decide)⟩
      have HLE : Hid (p ≤ q) := HPO.out.2.1
      have hwr : IntKind.u64.wrap (t + IntKind.u64.wrap (k : Int)) = (t + k) % 18446744073709551616 := by
        simp [IntKind.wrap, IntKind.bits, IntKind.signed]
      refine Agg.chainR 15 (by kernel_rfl) (by kernel_rfl) ?_
      simp only [List.take_succ_cons, List.take_zero, List.drop_succ_cons, List.drop_zero]
      refine Agg.chMove rfl rfl rfl rfl ?_
      refine Agg.chMove rfl rfl rfl rfl ?_
      refine Agg.chMove rfl rfl rfl rfl ?_
      refine Agg.chIA tiS (by omega) (by omega) rfl rfl rfl rfl rfl ?_
      refine Agg.chRow2 (by decide +kernel) rfl rfl rfl rfl hc1 hc2 ?_
      refine Agg.chMove rfl rfl rfl rfl ?_
      refine Agg.chIA tiG (by omega) (by omega) rfl rfl rfl rfl rfl ?_
      refine Agg.chFA (by first | exact fo_Span_1 | exact fo_Gs_1) rfl rfl rfl rfl ?_
      refine Agg.chLoad rfl rfl rfl rfl (by decide +kernel) hx2 ?_
      refine Agg.chMove rfl rfl rfl rfl ?_
      refine Agg.chInt _ rfl (by kernel_rfl) Try.underlying28 rfl rfl rfl rfl ?_
      refine Agg.chAr (r := (t + k) % 18446744073709551616) rfl rfl rfl (congrArg some hwr) rfl rfl ?_
      refine Agg.chBuild (v := .agg #[.int .i64 p, .int .i64 q, .int .u64 ((t + k) % 18446744073709551616)]) rfl rfl rfl rfl (fun _ => by kernel_rfl) ?_
      refine Agg.chCall Try.func14 rfl (by kernel_rfl) rfl rfl rfl rfl (fun W _ => lies_any p q _ W HGO.out HLE.out) ?_
      refine Agg.chBuildSlice (e := 2) #[.int .i64 (liesI ((p, q), (t + k) % 18446744073709551616))] rfl rfl rfl rfl (fun _ => by kernel_rfl) ?_
      clear hc1 hc2 hx2 hwr
      refine Agg.chEnd ?_
      intro vs w7 hb hf
      simp only [List.reverse, List.reverseAux, Agg.Facts] at hf
      obtain ⟨hns, _⟩ := hf
      simp only [List.reverse, List.reverseAux, Agg.fill, List.set_cons_succ, List.set_cons_zero]
      have hsl := hns.sl (sz := 1) rfl (by decide)
      clear hns
      replace HB := Lib.hid (HB.out.trans (hb.mono HB.out.size))
      replace HO1 := Lib.hid (HO1.out.keep hb)
      replace HO2 := Lib.hid (HO2.out.keep hb)
      replace HVr := Lib.hid (HVr.out.keep hb)
      clear hb
      refine Agg.append2 tiI (.tmp 57) (.tmp 71) rfl rfl w.heap.size (n := k) rfl HO2.out (m := 1) rfl hsl (by simp [Value.oneCell']) (by unfold maxLen; omega) (by omega) HB.out.size (fun v2 w20 ho2 hg2 _ => ?_)
      have hap2 := HAP.out
      replace HB := Lib.hid (HB.out.trans (grown_below hg2 HB.out.size (own_block HO2.out)))
      replace HO1 := Lib.hid (HO1.out.kept hg2 hap2)
      have hvk : V[k] = liesI ((p, q), (t + k) % 18446744073709551616) := by
        rw [HPQ.out]
        have h := addV_get t A k hkA
        simp only [← HVV.out] at h
        exact h
      have hic := iC_succ V k hkV
      rw [hvk] at hic
      rw [hic] at ho2
      have HVK := Lib.hid hvk
      replace HO2 := Lib.hid ho2
      clear hsl hg2 hap2 hic ho2 hvk
      simp only [Act.put, List.setIfInBounds_toArray, List.set_cons_succ, List.set_cons_zero]
      refine Agg.tAssign rfl rfl rfl ?_
      simp only [Agg.ev, List.getD_cons_zero, List.getD_cons_succ, List.set_cons_succ, List.set_cons_zero]
      refine Agg.wpNil ?_
      obtain ⟨g2, c2, rfl⟩ : ∃ g2 c2, v2 = .slice (some ⟨g2, 0, none⟩) (k + 1) c2 := by
        rcases HO2.out.2 with ⟨_, h0⟩ | ⟨g2, c2, cur, h, _⟩
        · omega
        · exact ⟨g2, c2, h⟩
      have hvc : w20.cell? ⟨g2, k, none⟩ = some (.int .i64 V[k]) := by
        have := HO2.out.cellAt k (by omega)
        rw [this]; simp [iC, hkV]
      have hsi := sums_in t A HAo.out k (by omega)
      have hsi2 := sums_in t A HAo.out (k + 1) (by omega)
      rw [← HVV.out] at hsi hsi2
      have hsv := sumV_succ V k hkV
      have hwv := widS_succ A k hkA
      rw [← HPQ.out] at hwv
      have hpo := HPO.out
      unfold SmOk at hpo
      simp only at hpo hwv
      have b1 : -1125899906842624 * 32 ≤ sumV V k ∧ sumV V k ≤ 1125899906842624 * 32 := by omega
      have b2 : -1125899906842624 * 32 ≤ sumV V k + V[k] ∧ sumV V k + V[k] ≤ 1125899906842624 * 32 := by omega
      have b3 : 0 ≤ widS A k + (q - p) ∧ widS A k + (q - p) < 18446744073709551616 := by omega
      have HSV := Lib.hid hsv.symm
      have HWV := Lib.hid hwv.symm
      have B3 := Lib.hid b3
      clear hsi hsi2 hsv hwv hpo b3
      go_upto_region 13 with (fail)
      clear hvc b1 b2
      have hc := spC_get (mix A L (k + 1)) k (by rw [mix_length A L HAL.out (k + 1) hlt]; exact hlt)
      have hmg : ∀ h, (mix A L (k + 1))[k]'h = (p, q) := by
        intro h
        rw [HPQ.out]
        simp only [mix]
        rw [List.getElem_append_left (by simp; omega)]
        simp
      rw [hmg] at hc
      have hc1 : w20.cell? ⟨g, 0 + (k : Int).toNat * 2 + 0, none⟩ = some (.int .i64 p) := by
        have := HO1.out.cellAt (k * 2) (by omega)
        rw [hc.1] at this; simpa using this
      have hc2 : w20.cell? ⟨g, 0 + (k : Int).toNat * 2 + 1, none⟩ = some (.int .i64 q) := by
        have := HO1.out.cellAt (k * 2 + 1) (by omega)
        rw [hc.2] at this; simpa using this
      clear hmg hc
      have hpo := HPO.out
      unfold SmOk at hpo
      simp only at hpo
      have hw1 : IntKind.u64.wrap (q - p) = q - p := by
        simp [IntKind.wrap, IntKind.bits, IntKind.signed]
        omega
      have hw2 : IntKind.u64.wrap (widS A k + (q - p)) = widS A (k + 1) := by
        have := B3.out
        rw [← HWV.out]
        simp [IntKind.wrap, IntKind.bits, IntKind.signed]
        omega
      clear HVr
      refine Agg.chainR 14 (by kernel_rfl) (by kernel_rfl) ?_
      simp only [List.take_succ_cons, List.take_zero, List.drop_succ_cons, List.drop_zero]
      refine Agg.chMove rfl rfl rfl rfl ?_
      refine Agg.chMove rfl rfl rfl rfl ?_
      refine Agg.chMove rfl rfl rfl rfl ?_
      refine Agg.chIA tiS (by omega) (by omega) rfl rfl rfl rfl rfl ?_
      refine Agg.chFA (by first | exact fo_Span_1 | exact fo_Gs_1) rfl rfl rfl rfl ?_
      refine Agg.chLoad rfl rfl rfl rfl (by decide +kernel) hc2 ?_
      refine Agg.chMove rfl rfl rfl rfl ?_
      refine Agg.chMove rfl rfl rfl rfl ?_
      refine Agg.chIA tiS (by omega) (by omega) rfl rfl rfl rfl rfl ?_
      refine Agg.chFA (by first | exact fo_Span_0 | exact fo_Gs_0) rfl rfl rfl rfl ?_
      refine Agg.chLoad rfl rfl rfl rfl (by decide +kernel) hc1 ?_
      refine Agg.chAr64 rfl rfl rfl rfl (by omega) (by omega) rfl rfl ?_
      refine Agg.chInt (q - p) hw1 (by kernel_rfl) Try.underlying28 rfl rfl rfl rfl ?_
      refine Agg.chAr (r := widS A (k + 1)) rfl rfl rfl (congrArg some hw2) rfl rfl ?_
      refine Agg.chEnd ?_
      intro vs w21 hb hf
      simp only [List.reverse, List.reverseAux, Agg.Facts] at hf
      obtain _ := hf
      simp only [List.reverse, List.reverseAux, Agg.fill, List.set_cons_succ, List.set_cons_zero]
      replace HB := Lib.hid (HB.out.trans (hb.mono HB.out.size))
      replace HO1 := Lib.hid (HO1.out.keep hb)
      replace HO2 := Lib.hid (HO2.out.keep hb)
      refine Agg.tAssign rfl rfl rfl ?_
      simp only [Agg.ev, List.getD_cons_zero, List.getD_cons_succ, List.set_cons_succ, List.set_cons_zero]
      refine Agg.wpNil ?_
      clear hc1 hc2 hpo hw1 hw2 hb
      go_wp2_with fail
      go_roundw
      case rel => exact ⟨⟨k + 1, by omega, by go_num, by rw [HSV.out], rfl, HO1.out, HO2.out⟩, HB.out⟩
      case measure => simp [intOf]; omega
    · obtain rfl : k = L.length := by omega
      rw [mix_all A L HAL.out] at HO1
      have HS : Hid (Spans wr (.slice xa L.length ca) A) := by
        show Spans _ _ _
        unfold Spans; rw [HAL.out]; exact ownSl HO1.out
      have HNV : Hid (SlR wr u7 1 V.length (iC V)) := by
        show SlR _ _ _ _ _
        have := ownSl HO2.out
        rw [List.take_of_length_le (by rw [HVA.out]; exact Nat.le_refl _)] at this
        rw [HVA.out]; exact this
      obtain ⟨⟨P1, P2⟩, hp1, hp2, hp3, hp4, hp5⟩ := plus_plain t A HAo.out (by rw [HAL.out]; exact hL20)
      rw [← HVV.out, HAL.out] at hp2
      rw [HAL.out] at hp3
      have hIA : ∀ s ∈ A, I64 s.1 ∧ I64 s.2 := fun s hs => by
        have := HAo.out s hs
        unfold SmOk at this
        unfold I64; omega
      have HP1 := Lib.hid hp1
      have HP2 := Lib.hid hp2
      have HP3 := Lib.hid hp3
      have HP4 := Lib.hid hp4
      have HP5 := Lib.hid hp5
      have HIA := Lib.hid hIA
      have hA20 : A.length ≤ 1000 := by have := HAL.out; omega
      clear hp1 hp2 hp3 hp4 hp5 hIA HO1 HO2 HVr
      go_wp2_with fail
      refine (Plus_any A _ wr HS.out hA20 HIA.out (P1, P2) 0 HP1.out).mono ?_
      rintro e w31 ⟨rfl, hb⟩
      replace HB := Lib.hid (HB.out.trans (hb.mono HB.out.size))
      replace HS := Lib.hid (HS.out.keep hb)
      replace HNV := Lib.hid (HNV.out.keep hb)
      clear hb
      go_wp2_with fail
      refine Agg.calls_at fun w32 hw32 => ?_
      have hb : Below w31.heap.size w31 w32 := by rw [hw32.out]; repeat (first | exact Below.refl _ _ | refine Agg.bel_drew ?_ | refine Agg.bel_alloc ?_ _)
      replace HB := Lib.hid (HB.out.trans (hb.mono HB.out.size))
      replace HS := Lib.hid (HS.out.keep hb)
      replace HNV := Lib.hid (HNV.out.keep hb)
      clear hb
      have H13 : Hid (Blk w32 w31.heap.size 31 [.int .i64 P1, .int .i64 P2]) := by show Blk _ _ _ _; rw [hw32.out]; exact Blk.new w31 31 #[.int .i64 P1, .int .i64 P2]
      refine (has_any P1 P2 _ w32 true HP2.out).mono ?_
      rintro e w33 ⟨rfl, hb⟩
      replace HB := Lib.hid (HB.out.trans (hb.mono HB.out.size))
      replace HS := Lib.hid (HS.out.keep hb)
      replace HNV := Lib.hid (HNV.out.keep hb)
      replace H13 := Lib.hid (H13.out.keep hb)
      clear hb
      have xH13_0 := H13.out.cell 0
      have xH13_1 := H13.out.cell 1
      have lH13 := H13.out.lt
      simp only [List.getElem?_cons_zero, List.getElem?_cons_succ] at xH13_0 xH13_1
      go_wp2_with fail
      clear xH13_0 xH13_1 lH13
      refine (width_any P1 P2 w33 HP4.out HP5.out).mono ?_
      rintro e w34 ⟨rfl, hb⟩
      replace HB := Lib.hid (HB.out.trans (hb.mono HB.out.size))
      replace HS := Lib.hid (HS.out.keep hb)
      replace HNV := Lib.hid (HNV.out.keep hb)
      replace H13 := Lib.hid (H13.out.keep hb)
      clear hb
      rw [show widthI (P1, P2) = widS A L.length from HP3.out]
      go_wp2_with fail
      have hm : -1000 < n.tmod 1000 ∧ n.tmod 1000 < 1000 := by
        have h : (n.tmod 1000).natAbs < (1000 : Int).natAbs := by rw [Int.natAbs_tmod]; exact Nat.mod_lt _ (by decide)
        have e : (1000 : Int).natAbs = 1000 := rfl
        omega
      generalize n.tmod 1000 = m at hm ⊢
      have HM := Lib.hid hm
      clear hm
      go_loopw [117] (fun i wr => ∃ k : Nat, k ≤ L.length ∧ i = .int .i64 k ∧ Below w34.heap.size w34 wr) (fun i _ => L.length - (intOf i).toNat)
      case atStart => exact ⟨0, by omega, rfl, Below.refl _ _⟩
      case round =>
        obtain ⟨k, hk, rfl, hb⟩ := hrel
        have HK : Hid (From w34 wr) := Lib.hid hb
        obtain ⟨wo, hwo⟩ : ∃ x, x = wr := ⟨_, rfl⟩
        subst hwo
        have hb := hb
        replace HB := Lib.hid (HB.out.trans (hb.mono HB.out.size))
        replace HS := Lib.hid (HS.out.keep hb)
        replace HNV := Lib.hid (HNV.out.keep hb)
        replace H13 := Lib.hid (H13.out.keep hb)
        clear hb
        by_cases hlt : k < L.length
        · have hkA : k < A.length := by have := HAL.out; omega
          have hkV : k < V.length := by have := HVA.out; omega
          have hin := addV_in t A k hkA (HAo.out _ (List.getElem_mem hkA))
          simp only [← HVV.out] at hin
          obtain ⟨⟨p, q⟩, hpq⟩ : ∃ s, s = A[k] := ⟨_, rfl⟩
          have hpo := HAo.out _ (List.getElem_mem hkA)
          obtain ⟨bs, os, rfl, c1, c2, _⟩ := HS.out.at hkA
          rw [← hpq] at hin hpo c1 c2
          obtain ⟨⟨t1, t2⟩, ⟨b1, b2⟩, ht1, ht2, ht3, ht4, ht5, ht6, ht7, ht8, ht9, ht10⟩ := times_plain (p, q) V[k] m hpo hin.1 hin.2 HM.out
          simp only at c1 c2
          have HT1 := Lib.hid ht1
          have HT2 := Lib.hid ht2
          have HT3 := Lib.hid ht3
          have HT4 := Lib.hid ht4
          have HT5 := Lib.hid ht5
          have HT6 := Lib.hid ht6
          have HT7 := Lib.hid ht7
          have HT8 := Lib.hid ht8
          have HT9 := Lib.hid (And.intro ht9 ht10)
          have HPO := Lib.hid hpo
          clear hin ht1 ht2 ht3 ht4 ht5 ht6 ht7 ht8 ht9 ht10 hpo hpq
          have hpi : I64 p ∧ I64 q := by
            have := HPO.out
            unfold SmOk at this
            simp only at this
            unfold I64; omega
          have hmi : I64 m ∧ I64 (-m) := by have := HM.out; unfold I64; omega
          have HPI := Lib.hid hpi
          have HMI := Lib.hid hmi
          clear hpi hmi
          go_wp2_with fail
          refine Agg.calls_at fun w61 hw61 => ?_
          have hb : Below wo.heap.size wo w61 := by rw [hw61.out]; repeat (first | exact Below.refl _ _ | refine Agg.bel_drew ?_ | refine Agg.bel_alloc ?_ _)
          replace HB := Lib.hid (HB.out.trans (hb.mono HB.out.size))
          replace HS := Lib.hid (HS.out.keep hb)
          replace HNV := Lib.hid (HNV.out.keep hb)
          replace HK := Lib.hid (HK.out.keep hb)
          clear hb
          have H16 : Hid (Blk w61 wo.heap.size 31 [.int .i64 p, .int .i64 q]) := by show Blk _ _ _ _; rw [hw61.out]; exact Blk.new wo 31 #[.int .i64 p, .int .i64 q]
          clear hw61
          refine (times_any p q m w61 HPI.out.1 HPI.out.2 HMI.out.1 (t1, t2) 0 HT1.out).mono ?_
          rintro e w62 ⟨rfl, hb⟩
          replace HB := Lib.hid (HB.out.trans (hb.mono HB.out.size))
          replace HS := Lib.hid (HS.out.keep hb)
          replace HNV := Lib.hid (HNV.out.keep hb)
          replace HK := Lib.hid (HK.out.keep hb)
          replace H16 := Lib.hid (H16.out.keep hb)
          clear hb
          go_wp2_with fail
          refine Agg.calls_at fun w63 hw63 => ?_
          have hb : Below w62.heap.size w62 w63 := by rw [hw63.out]; repeat (first | exact Below.refl _ _ | refine Agg.bel_drew ?_ | refine Agg.bel_alloc ?_ _)
          replace HB := Lib.hid (HB.out.trans (hb.mono HB.out.size))
          replace HS := Lib.hid (HS.out.keep hb)
          replace HNV := Lib.hid (HNV.out.keep hb)
          replace HK := Lib.hid (HK.out.keep hb)
          replace H16 := Lib.hid (H16.out.keep hb)
          clear hb
          have H17 : Hid (Blk w63 w62.heap.size 31 [.int .i64 t1, .int .i64 t2]) := by show Blk _ _ _ _; rw [hw63.out]; exact Blk.new w62 31 #[.int .i64 t1, .int .i64 t2]
          clear hw63
          refine (times_any t1 t2 (-1) w63 HT6.out HT7.out (by decide) (b1, b2) 0 HT2.out).mono ?_
          rintro e w64 ⟨rfl, hb⟩
          replace HB := Lib.hid (HB.out.trans (hb.mono HB.out.size))
          replace HS := Lib.hid (HS.out.keep hb)
          replace HNV := Lib.hid (HNV.out.keep hb)
          replace HK := Lib.hid (HK.out.keep hb)
          replace H16 := Lib.hid (H16.out.keep hb)
          replace H17 := Lib.hid (H17.out.keep hb)
          clear hb
          have xH16_0 := H16.out.cell 0
          have xH16_1 := H16.out.cell 1
          have lH16 := H16.out.lt
          simp only [List.getElem?_cons_zero, List.getElem?_cons_succ] at xH16_0 xH16_1
          have hm2 := HM.out
          have hwm : IntKind.i64.wrap (-m) = -m := by rw [IntKind.wrap_i64]; omega
          go_wp2_with fail
          clear hm2 hwm
          refine Agg.calls_at fun w65 hw65 => ?_
          have hb : Below w64.heap.size w64 w65 := by rw [hw65.out]; repeat (first | exact Below.refl _ _ | refine Agg.bel_drew ?_ | refine Agg.bel_alloc ?_ _)
          replace HB := Lib.hid (HB.out.trans (hb.mono HB.out.size))
          replace HS := Lib.hid (HS.out.keep hb)
          replace HNV := Lib.hid (HNV.out.keep hb)
          replace HK := Lib.hid (HK.out.keep hb)
          replace H16 := Lib.hid (H16.out.keep hb)
          replace H17 := Lib.hid (H17.out.keep hb)
          clear hb
          have H19 : Hid (Blk w65 w64.heap.size 31 [.int .i64 b1, .int .i64 b2]) := by show Blk _ _ _ _; rw [hw65.out]; exact Blk.new w64 31 #[.int .i64 b1, .int .i64 b2]
          clear hw65
          clear xH16_0 xH16_1 lH16
          refine (times_any p q (-m) w65 HPI.out.1 HPI.out.2 HMI.out.2 (b1, b2) 0 HT3.out).mono ?_
          rintro e w66 ⟨rfl, hb⟩
          replace HB := Lib.hid (HB.out.trans (hb.mono HB.out.size))
          replace HS := Lib.hid (HS.out.keep hb)
          replace HNV := Lib.hid (HNV.out.keep hb)
          replace HK := Lib.hid (HK.out.keep hb)
          replace H16 := Lib.hid (H16.out.keep hb)
          replace H17 := Lib.hid (H17.out.keep hb)
          replace H19 := Lib.hid (H19.out.keep hb)
          clear hb
          go_upto_region 25 with (fail)
          refine Agg.wp_at fun w67 hw67 => ?_
          have hb : Below w66.heap.size w66 w67 := by rw [hw67.out]; repeat (first | exact Below.refl _ _ | refine Agg.bel_drew ?_ | refine Agg.bel_alloc ?_ _)
          replace HB := Lib.hid (HB.out.trans (hb.mono HB.out.size))
          replace HS := Lib.hid (HS.out.keep hb)
          replace HNV := Lib.hid (HNV.out.keep hb)
          replace HK := Lib.hid (HK.out.keep hb)
          replace H16 := Lib.hid (H16.out.keep hb)
          replace H17 := Lib.hid (H17.out.keep hb)
          replace H19 := Lib.hid (H19.out.keep hb)
          clear hb
          have H21 : Hid (Blk w67 w66.heap.size 31 [.int .i64 b1, .int .i64 b2]) := by show Blk _ _ _ _; rw [hw67.out]; exact Blk.new w66 31 #[.int .i64 b1, .int .i64 b2]
          clear hw67
          obtain ⟨M, hmx⟩ : ∃ M, max m (-m) = M := ⟨_, rfl⟩
          rw [hmx] at HT5 HT9
          have hM : 0 ≤ M ∧ M < 1000 := by have := HM.out; omega
          have hM0 : IntKind.u64.wrap M = M := by
            simp [IntKind.wrap, IntKind.bits, IntKind.signed]
            omega
          have HMX := Lib.hid hmx
          clear hmx hM
          have hneg : IntKind.i64.wrap (-m) = -m := by have := HM.out; rw [IntKind.wrap_i64]; omega
          have hpr : IntKind.u64.wrap ((q - p) * M) = (q - p) * M := by
            have := HT9.out
            simp [IntKind.wrap, IntKind.bits, IntKind.signed]
            omega
          have hwp : widthI (p, q) = q - p := by
            have := HPO.out
            unfold SmOk at this
            simp only at this
            unfold widthI
            rw [if_neg (by simp only; omega)]
          have hbb : I64 b1 ∧ I64 b2 := timesR_in HT2.out
          have hvm := HT8.out
          unfold I64 at hvm
          obtain ⟨xv, ov, cv, rfl, _, _, _, _⟩ := HNV.out.pos (by decide) (by omega)
          have hvc : w67.cell? ⟨xv, ov + (k : Int).toNat * 1, none⟩ = some (.int .i64 V[k]) := by
            have := ints_cell HNV.out hkV
            simpa using this
          refine Agg.chainR 39 (by kernel_rfl) (by kernel_rfl) ?_
          simp only [List.take_succ_cons, List.take_zero, List.drop_succ_cons, List.drop_zero]
          refine Agg.chMove rfl rfl rfl rfl ?_
          refine Agg.chNe false rfl rfl rfl rfl rfl rfl ?_
          refine Agg.chMove rfl rfl rfl rfl ?_
          refine Agg.chMove rfl rfl rfl rfl ?_
          refine Agg.chNe false rfl rfl rfl rfl rfl rfl ?_
          refine Agg.chPick rfl rfl rfl rfl rfl ?_
          refine Agg.chMove rfl rfl rfl rfl ?_
          refine Agg.chMove rfl rfl rfl rfl ?_
          refine Agg.chNe false rfl rfl rfl rfl rfl rfl ?_
          refine Agg.chPick rfl rfl rfl rfl rfl ?_
          refine Agg.chMove rfl rfl rfl rfl ?_
          refine Agg.chRowB 2 H19.out rfl (by decide +kernel) rfl rfl rfl rfl ?_
          refine Agg.chRowB 2 H21.out rfl (by decide +kernel) rfl rfl rfl rfl ?_
          refine Agg.chBin (v := .bool false) rfl rfl rfl rfl rfl (fun w => flat_span.gd .neq _ _ _ _ w) (fun w => (by simpa using flat_span.neq (xs := [.int .i64 b1, .int .i64 b2]) (ys := [.int .i64 b1, .int .i64 b2]) (fits_span hbb.1 hbb.2) (fits_span hbb.1 hbb.2) true (by simp) w)) ?_
          refine Agg.chPick rfl rfl rfl rfl rfl ?_
          refine Agg.chMove rfl rfl rfl rfl ?_
          refine Agg.chRowB 2 H17.out rfl (by decide +kernel) rfl rfl rfl rfl ?_
          refine Agg.chMove rfl rfl rfl rfl ?_
          refine Agg.chMove rfl rfl rfl rfl ?_
          refine Agg.chIA tiI (by omega) (by omega) rfl rfl rfl rfl rfl ?_
          refine Agg.chLoad rfl rfl rfl rfl (by decide +kernel) hvc ?_
          refine Agg.chMove rfl rfl rfl rfl ?_
          refine Agg.chAr64 rfl rfl rfl rfl (by omega) (by omega) rfl rfl ?_
          refine Agg.chCall Try.func16 rfl (by kernel_rfl) rfl rfl rfl rfl (fun W _ => has_any t1 t2 (V[k] * m) W true HT4.out) ?_
          refine Agg.chNot rfl rfl rfl rfl ?_
          refine Agg.chPick rfl rfl rfl rfl rfl ?_
          refine Agg.chMove rfl rfl rfl rfl ?_
          refine Agg.chRowB 2 H17.out rfl (by decide +kernel) rfl rfl rfl rfl ?_
          refine Agg.chCall Try.func17 rfl (by kernel_rfl) rfl rfl rfl rfl (fun W _ => width_any t1 t2 W HT6.out HT7.out) ?_
          refine Agg.chRowB 2 H16.out rfl (by decide +kernel) rfl rfl rfl rfl ?_
          refine Agg.chCall Try.func17 rfl (by kernel_rfl) rfl rfl rfl rfl (fun W _ => width_any p q W HPI.out.1 HPI.out.2) ?_
          refine Agg.chMove rfl rfl rfl rfl ?_
          refine Agg.chMove rfl rfl rfl rfl ?_
          refine Agg.chUn (v := .int .i64 (-m)) rfl rfl rfl rfl (fun w => (by simp [Op.unary, Op.intArith, hneg])) ?_
          refine Agg.chMax2 M HMX.out rfl rfl rfl rfl rfl ?_
          refine Agg.chInt M hM0 (by kernel_rfl) Try.underlying28 rfl rfl rfl rfl ?_
          refine Agg.chAr (r := (q - p) * M) rfl rfl rfl (congrArg some ((congrArg (fun z => IntKind.u64.wrap (z * M)) hwp).trans hpr)) rfl rfl ?_
          refine Agg.chNe false (by rw [HT5.out]; simp) rfl rfl rfl rfl rfl ?_
          refine Agg.chPick rfl rfl rfl rfl rfl ?_
          refine Agg.chEnd ?_
          intro vs w68 hb _
          refine Agg.wpNil ?_
          simp only [List.reverse, List.reverseAux, Agg.fill, List.set_cons_succ, List.set_cons_zero]
          replace HB := Lib.hid (HB.out.trans (hb.mono HB.out.size))
          replace HS := Lib.hid (HS.out.keep hb)
          replace HNV := Lib.hid (HNV.out.keep hb)
          replace HK := Lib.hid (HK.out.keep hb)
          replace H16 := Lib.hid (H16.out.keep hb)
          replace H17 := Lib.hid (H17.out.keep hb)
          replace H19 := Lib.hid (H19.out.keep hb)
          replace H21 := Lib.hid (H21.out.keep hb)
          clear hb
          clear hneg hpr hwp hbb hvm hvc hM0
          go_wp2_with fail
          go_roundw
          case rel => exact ⟨k + 1, by omega, by go_num, HK.out⟩
          case measure => simp [intOf]; omega
        · obtain rfl : k = L.length := by omega
          go_wp2_with fail
          go_ret
          exact ⟨rfl, HB.out⟩
set_option maxRecDepth 100000 in
theorem SpanAdds_walk (v : Value) (f0 : Nat) (n : Int) (w : World) (h0 : Agg.Good Try.prog w f0 22 [v]) (h1 : (Lit.int .i64 n).wf = true) :
    Calls Try.prog 3 #[v, .int .i64 n] w fun e w' => e = .returned (.bool true) ∧ Below w.heap.size w w' := by
  obtain ⟨l, hl, hg⟩ := good_gs h0
  exact adds_any l v n w hl hg (i64_wf h1)
end Go.Proofs.Ytcedalenjcbnmaa
