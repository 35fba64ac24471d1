/-
  THE WALK OF LAYER 20's STATEMENT FileTakes, wakes given.
-/
import Derived.Test.YtgfmpkcgkjpgnaaRest
import Derived.Test.YtgfmpkcgkjpgnaaFi1
import Derived.Test.YtgfmpkcgkjpgnaaDv1
import Derived.Test.YtgfmpkcgkjpgnaaOpen
section
namespace Go.Proofs.Ytgfmpkcgkjpgnaa
open Go.ChangeShapes Go.WideShapes Go.ChangeAt Go.RowKit Agg Pg Dv Fi
attribute [local go_sem] Oper.semAt_some

theorem takeL_bad {U : List Int} {pages n : Int} (h : sizeB pages = false ∨ n < 0) : takeL U pages n = ([], 2) := by unfold takeL; rw [if_pos h]
theorem takeL_few {U : List Int} {pages n : Int} (h : sizeB pages = true) (h2 : ¬ n < 0) (h3 : ((freeL U pages).length : Int) < n) : takeL U pages n = ([], 8) := by
  unfold takeL; rw [if_neg (by rw [h]; simp; omega), if_pos h3]
theorem takeL_ok {U : List Int} {pages n : Int} (h : sizeB pages = true) (h2 : ¬ n < 0) (h3 : ¬ ((freeL U pages).length : Int) < n) : takeL U pages n = ((freeL U pages).take n.toNat, 0) := by
  unfold takeL; rw [if_neg (by rw [h]; simp; omega), if_neg h3]
set_option maxHeartbeats 4000000 in
set_option maxRecDepth 100000 in
theorem takes_walk (l : List Int) (v : Value) (pages n : Int) (w : World) (hv : Ints w v l) :
    Calls Try.prog 3 #[v, .int .i64 pages, .int .i64 n] w fun e w' => e = .returned (.bool true) ∧ Below w.heap.size w w' := by
  obtain ⟨x, cap, rfl, hc, _⟩ := SlR.shape hv
  have HL := Lib.hid hv
  clear hv
  obtain ⟨m, hmd⟩ : ∃ m, m = min l.length 300 := ⟨_, rfl⟩
  have hm1 : m ≤ l.length := by omega
  have hm2 : m ≤ 300 := by omega
  have hme : min (l.length : Int) 300 = (m : Int) := by omega
  have hmc : (m : Int) ≤ cap := by omega
  have hle : (l.take m).length = m := by rw [List.length_take]; omega
  have HT0 := Lib.hid (ints_pre HL.out m hm1)
  clear hmd HL
  obtain ⟨U, hU⟩ : ∃ U, l.take m = U := ⟨_, rfl⟩
  rw [hU] at hle HT0
  subst hle
  clear hU
  have HB := Lib.hid (Below.refl w.heap.size w)
  go_enter Try.func3, Try.ntmps3
  go_wp2_with fail
  refine (wakes_any w).mono ?_
  rintro e w1 ⟨rfl, hb⟩
  replace HB := Lib.hid (HB.out.trans (hb.mono HB.out.size))
  replace HT0 := Lib.hid (HT0.out.keep hb)
  clear hb
  go_wp2_with (refine Agg.min2 _ _ _ (U.length : Int) rfl rfl rfl rfl hme ?_; simp only [Act.put, List.setIfInBounds_toArray, List.set_cons_succ, List.set_cons_zero])
  refine (cloneI_any U _ w1 HT0.out (by omega)).mono ?_
  rintro e w2 ⟨u, rfl, hu, hb⟩
  replace HB := Lib.hid (HB.out.trans (hb.mono HB.out.size))
  replace HT0 := Lib.hid (HT0.out.keep hb)
  clear hb
  have HU := Lib.hid (ownSl hu)
  obtain ⟨ux, uc, rfl, _, _⟩ := (ownSl hu).shape
  clear hu HT0 hme hm1
  obtain ⟨C, hC⟩ : ∃ C, freeL U pages = C := ⟨_, rfl⟩
  have HF := Lib.hid (fun W (v : Value) hW => Free_any U v pages W hW)
  obtain ⟨⟨T, er⟩, hT⟩ : ∃ r, takeL U pages n = r := ⟨_, rfl⟩
  have HTK := Lib.hid hT
  have HC := Lib.hid hC
  rw [hC] at HF
  clear hC hT
  go_wp2_with fail
  refine (HF.out w2 _ HU.out).mono ?_
  rintro e w3 ⟨u2, rfl, hu2, hb⟩
  replace HB := Lib.hid (HB.out.trans (hb.mono HB.out.size))
  replace HU := Lib.hid (HU.out.keep hb)
  clear hb
  have HCC := Lib.hid (ints_of (ownSl hu2))
  obtain ⟨cx, cc, rfl, hcc, hcm⟩ := (ownSl hu2).shape
  clear hu2
  go_wp2_with fail
  refine (Take_any U _ pages n w3 HU.out T er HTK.out).mono ?_
  rintro e w4 ⟨u3, rfl, hu3, hb⟩
  replace HB := Lib.hid (HB.out.trans (hb.mono HB.out.size))
  replace HU := Lib.hid (HU.out.keep hb)
  replace HCC := Lib.hid (HCC.out.keep hb)
  clear hb
  have HTT := Lib.hid hu3
  have hsh := SlR.shape hu3
  rw [toI_length] at hsh
  obtain ⟨tx, tc, rfl, htc, htm⟩ := hsh
  clear hu3
  obtain ⟨q, hq⟩ : ∃ q, sizeB pages = q := ⟨_, rfl⟩
  have HQ := Lib.hid hq
  clear hq
  by_cases hbad : q = false ∨ n < 0
  · have ht := HTK.out
    rw [takeL_bad (by rw [HQ.out]; exact hbad)] at ht
    simp only [Prod.mk.injEq] at ht
    obtain ⟨rfl, rfl⟩ := ht
    have hq2 : n < 0 ∨ pages < 24 ∨ pages > 256 := by
      rcases hbad with h | h
      · subst h
        have h2 := HQ.out
        unfold sizeB at h2
        by_cases h3 : 24 ≤ pages
        · rw [decide_eq_true h3, Bool.true_and, decide_eq_false_iff_not] at h2; omega
        · omega
      · exact .inl h
    clear hbad
    by_cases h1 : n < 0
    · go_wp2_with fail
      go_ret
      exact ⟨rfl, HB.out⟩
    · by_cases h2 : pages < 24
      · go_wp2_with fail
        go_ret
        exact ⟨rfl, HB.out⟩
      · have h3 : pages > 256 := by omega
        go_wp2_with fail
        go_ret
        exact ⟨rfl, HB.out⟩
  · have hqt : q = true := by cases q with | true => rfl | false => exact absurd (.inl rfl) hbad
    have hn0 : ¬ n < 0 := fun h => hbad (.inr h)
    subst hqt
    clear hbad
    by_cases hfew : (C.length : Int) < n
    · have ht := HTK.out
      rw [takeL_few HQ.out hn0 (by rw [HC.out]; exact hfew)] at ht
      simp only [Prod.mk.injEq] at ht
      obtain ⟨rfl, rfl⟩ := ht
      have h5 : n > (C.length : Int) := hfew
      go_wp2_with fail
      go_ret
      exact ⟨rfl, HB.out⟩
    · have ht := HTK.out
      rw [takeL_ok HQ.out hn0 (by rw [HC.out]; exact hfew), HC.out] at ht
      simp only [Prod.mk.injEq] at ht
      obtain ⟨ht1, rfl⟩ := ht
      obtain ⟨k, rfl⟩ : ∃ k : Nat, n = (k : Int) := ⟨n.toNat, by omega⟩
      rw [Int.toNat_natCast] at ht1
      have htl : T.length = k := by rw [← ht1, List.length_take]; omega
      subst htl
      have HT1 := Lib.hid ht1
      clear ht1
      have hs := HQ.out
      unfold sizeB at hs
      rw [Bool.and_eq_true, decide_eq_true_eq, decide_eq_true_eq] at hs
      obtain ⟨N, rfl⟩ : ∃ N : Nat, pages = (N : Int) := ⟨pages.toNat, by omega⟩
      have hN2 : N ≤ 256 := by omega
      have hCF : freeF U N = C := by rw [← HC.out]; unfold freeL; rw [HQ.out]; rfl
      have hcl := freeF_len U N
      rw [hCF] at hcl
      have hkc : T.length ≤ C.length := by omega
      have HCF := Lib.hid hCF
      have HTE : Hid (∀ i (h : i < T.length), T[i] = C[i]'(Nat.lt_of_lt_of_le h hkc)) := Lib.hid fun i h => by
        have h2 : (C.take T.length)[i]? = some T[i] := by rw [HT1.out]; exact List.getElem?_eq_getElem h
        rw [List.getElem?_take, if_pos h, List.getElem?_eq_getElem (Nat.lt_of_lt_of_le h hkc)] at h2
        exact (Option.some.inj h2).symm
      have HMEM : Hid (∀ p ∈ C, (18 ≤ p ∧ p < N) ∧ hasB U (p : Int) = false) := Lib.hid fun p hp => by
        rw [← hCF] at hp
        obtain ⟨h1, h2⟩ := freeF_mem.1 hp
        refine ⟨h1, ?_⟩
        cases h3 : hasB U (p : Int) with
        | false => rfl
        | true => exact (h2 ((inB_iff U p).1 h3)).elim
      have HSO : Hid (C.Pairwise (· < ·)) := Lib.hid (by rw [← hCF]; exact freeF_sorted U N)
      clear hs hCF HTK hn0 HF
      obtain ⟨wZ, hwZ⟩ : ∃ x, x = w4 := ⟨_, rfl⟩
      subst hwZ
      have HUZ := HU
      have HCZ := HCC
      have HTZ := HTT
      have HBZ := HB
      clear HU HCC HTT HB
      have hkd : ¬ C.length < T.length := by omega
      go_wp2_with fail
      go_loopw [75] (fun ix wr => ∃ (i : Nat), i ≤ T.length ∧ ix = .int .i64 i ∧ Below wZ.heap.size wZ wr) (fun ix _ => T.length - (intOf ix).toNat)
      case atStart => exact ⟨0, by omega, rfl, Below.refl _ _⟩
      case round =>
        obtain ⟨i, hi, rfl, hb⟩ := hrel
        have HFZ : Hid (From wZ wr) := Lib.hid hb
        have HB := Lib.hid (HBZ.out.trans (hb.mono HBZ.out.size))
        have HU := Lib.hid (SlR.keep HUZ.out hb)
        have HCC := Lib.hid (SlR.keep HCZ.out hb)
        have HTT := Lib.hid (SlR.keep HTZ.out hb)
        clear hb
        obtain ⟨wA, hwA⟩ : ∃ x, x = wr := ⟨_, rfl⟩
        subst hwA
        by_cases hlt : i < T.length
        · obtain ⟨tb, tof, tc', hve, _, _, _, _⟩ := SlR.pos HTT.out (by decide) (by rw [toI_length]; omega)
          rw [toI_length] at hve
          simp only [Value.slice.injEq, true_and] at hve
          obtain ⟨rfl, rfl⟩ := hve
          obtain ⟨cb, cof, cc', hve, _, _, _, _⟩ := SlR.pos HCC.out (by decide) (by rw [toI_length]; omega)
          rw [toI_length] at hve
          simp only [Value.slice.injEq, true_and] at hve
          obtain ⟨rfl, rfl⟩ := hve
          have hct := fun W (hW : Below wZ.heap.size wZ W) i (h : i < T.length) => ints_at (SlR.keep HTZ.out hW) (k := i) (by rw [toI_length]; exact h)
          have hcc2 := fun W (hW : Below wZ.heap.size wZ W) i (h : i < C.length) => ints_at (SlR.keep HCZ.out hW) (k := i) (by rw [toI_length]; exact h)
          have hgt : ∀ i (h : i < T.length), (toI T)[i]'(by rw [toI_length]; exact h) = ((T[i] : Nat) : Int) := fun i h => by simp [toI]
          have hgc : ∀ i (h : i < C.length), (toI C)[i]'(by rw [toI_length]; exact h) = ((C[i] : Nat) : Int) := fun i h => by simp [toI]
          have hte := HTE.out i hlt
          have hic : i < C.length := Nat.lt_of_lt_of_le hlt hkc
          have HCT : Hid (∀ W, Below wZ.heap.size wZ W → W.cell? ⟨tb, tof + i, none⟩ = some (.int .i64 ((C[i] : Nat) : Int))) := Lib.hid fun W hW => by have h := hct W hW i hlt; rw [hgt i hlt, hte] at h; exact h
          have HCI : Hid (∀ W, Below wZ.heap.size wZ W → W.cell? ⟨cb, cof + i, none⟩ = some (.int .i64 ((C[i] : Nat) : Int))) := Lib.hid fun W hW => by have h := hcc2 W hW i hic; rw [hgc i hic] at h; exact h
          have HCJ : Hid (∀ j (h : j < i) W, Below wZ.heap.size wZ W → W.cell? ⟨tb, tof + j, none⟩ = some (.int .i64 ((C[j]'(Nat.lt_trans h hic) : Nat) : Int))) := Lib.hid fun j h W hW => by have h2 := hct W hW j (Nat.lt_trans h hlt); rw [hgt j (Nat.lt_trans h hlt), HTE.out j (Nat.lt_trans h hlt)] at h2; exact h2
          have hlts : ∀ j (h : j < i), C[j]'(Nat.lt_trans h hic) < C[i] := fun j h => List.pairwise_iff_getElem.1 HSO.out j i (Nat.lt_trans h hic) hic h
          obtain ⟨⟨hp1, hp2⟩, hp3⟩ := HMEM.out _ (List.getElem_mem hic)
          have HLT := Lib.hid hlts
          clear hct hcc2 hgt hgc hte hlts
          obtain ⟨p, hp⟩ : ∃ p, C[i] = p := ⟨_, rfl⟩
          rw [hp] at HCT HCI HLT hp1 hp2 hp3
          have HP3 := Lib.hid hp3
          clear hp3 hp
          have b1 : ¬ (p : Int) < 18 := by omega
          have b2 : ¬ (p : Int) ≥ N := by omega
          have ct := HCT.out wA HFZ.out
          go_wp2_with fail
          clear ct
          refine (contains_any U _ (p : Int) wA HU.out false HP3.out).mono ?_
          rintro e w41 ⟨rfl, hb⟩
          replace HB := Lib.hid (HB.out.trans (hb.mono HB.out.size))
          replace HFZ := Lib.hid (HFZ.out.keep hb)
          clear hb
          have cc0 := HCI.out w41 HFZ.out
          by_cases hi0 : i = 0
          · subst hi0
            rw [Nat.add_zero] at cc0
            go_wp2_with fail
            exact ⟨⟨1, by omega, by go_num, HFZ.out⟩, by simp [intOf]; omega⟩
          · obtain ⟨j, rfl⟩ : ∃ j, i = j + 1 := ⟨i - 1, by omega⟩
            have cj := HCJ.out j (by omega) w41 HFZ.out
            have hj := HLT.out j (by omega)
            obtain ⟨pj, hpj⟩ : ∃ p, C[j]'(by omega) = p := ⟨_, rfl⟩
            rw [hpj] at cj hj
            clear hpj
            have b3 : ((j + 1 : Nat) : Int) > 0 := by omega
            have b4 : ¬ (pj : Int) ≥ p := by omega
            go_wp2_with fail
            exact ⟨⟨j + 1 + 1, by omega, by go_num, HFZ.out⟩, by simp [intOf]; omega⟩
        · obtain rfl : i = T.length := by omega
          go_wp2_with fail
          refine Agg.calls_at fun w61 hw61 => ?_
          have hb : Below wA.heap.size wA w61 := by rw [hw61.out]; repeat (first | exact Below.refl _ _ | refine Agg.bel_drew ?_ | refine Agg.bel_alloc ?_ _)
          replace HB := Lib.hid (HB.out.trans (hb.mono HB.out.size))
          replace HFZ := Lib.hid (HFZ.out.keep hb)
          replace HU := Lib.hid (HU.out.keep hb)
          replace HCC := Lib.hid (HCC.out.keep hb)
          replace HTT := Lib.hid (HTT.out.keep hb)
          clear hb
          have HBK : Hid (Blk w61 wA.heap.size 22 [.slice ux U.length uc, .slice tx T.length tc]) := by show Blk _ _ _ _; rw [hw61.out]; exact Blk.new wA 22 #[.slice ux U.length uc, .slice tx T.length tc]
          clear hw61
          generalize wA.heap.size = gb at *
          refine (concatI_any U (toI T) _ _ gb w61 HBK.out HU.out HTT.out (by omega) (by rw [toI_length]; omega)).mono ?_
          rintro e w62 ⟨u4, rfl, hu4, hb⟩
          replace HB := Lib.hid (HB.out.trans (hb.mono HB.out.size))
          replace HFZ := Lib.hid (HFZ.out.keep hb)
          replace HU := Lib.hid (HU.out.keep hb)
          replace HCC := Lib.hid (HCC.out.keep hb)
          replace HTT := Lib.hid (HTT.out.keep hb)
          clear hb
          have HUT : Hid (Ints w62 u4 (U ++ toI T)) := Lib.hid (ownSl hu4)
          have hs4 := (ownSl hu4).shape
          obtain ⟨qx, qc, rfl, _, _⟩ := hs4
          clear hu4 HBK
          obtain ⟨V, hV⟩ : ∃ V, U ++ toI T = V := ⟨_, rfl⟩
          have hfr : freeF V N = C.drop T.length := by
            have h := free_taken U N T.length
            rw [HCF.out, HT1.out, hV] at h
            exact h
          rw [hV] at HUT
          have hlv : (U ++ toI T).length = V.length := by rw [hV]
          rw [hlv]
          have hre : freeL V (N : Int) = C.drop T.length := by
            unfold freeL
            rw [HQ.out, if_pos rfl, Int.toNat_natCast]
            exact hfr
          clear hfr hlv hV
          have hf2 := fun W (v : Value) hW => Free_any V v (N : Int) W hW
          rw [hre] at hf2
          obtain ⟨E, hE⟩ : ∃ E, C.drop T.length = E := ⟨_, rfl⟩
          rw [hE] at hf2
          have HF2 := Lib.hid hf2
          have HE := Lib.hid hE
          clear hre hf2 hE
          go_wp2_with fail
          refine (HF2.out w62 _ HUT.out).mono ?_
          rintro e w63 ⟨u5, rfl, hu5, hb⟩
          replace HB := Lib.hid (HB.out.trans (hb.mono HB.out.size))
          replace HFZ := Lib.hid (HFZ.out.keep hb)
          replace HCC := Lib.hid (HCC.out.keep hb)
          replace HUT := Lib.hid (HUT.out.keep hb)
          clear hb
          have HR5 := Lib.hid (ints_of (ownSl hu5))
          obtain ⟨rx, rc, rfl, _, _⟩ := (ownSl hu5).shape
          clear hu5 HF2 HUT
          go_upto_region 17 with (fail)
          have hcc3 : SlR w63 (.slice cx C.length cc) 1 C.length (nI C) := by have h := HCC.out; have e := toI_length C; unfold Ints at h; rw [e] at h; exact h
          obtain ⟨y3, c3, hsl, hr3⟩ := Agg.slR_rest tiInt (by decide) hcc3 T.length hkc
          have hel : C.length - T.length = E.length := by rw [← HE.out, List.length_drop]
          have HS3 : Hid (Ints w63 (.slice y3 E.length c3) (toI E)) := Lib.hid (by
            have e : iC (toI E) = (nI C).drop (T.length * 1) := by rw [← HE.out, Nat.mul_one]; unfold nI iC toI; rw [List.map_drop, List.map_drop]
            show SlR _ _ 1 (toI E).length (iC (toI E))
            rw [toI_length, e, ← hel]; exact hr3)
          rw [hel] at hsl
          clear hcc3 hr3 hel
          go_wp2_with (refine Agg.gSliceFrom (.slice y3 E.length c3) rfl rfl rfl rfl hsl ?_; simp only [Act.put, List.setIfInBounds_toArray, List.set_cons_succ, List.set_cons_zero])
          clear hsl
          refine (eqI_any (toI E) (toI E) _ _ w63 HR5.out HS3.out true (by simp)).mono ?_
          rintro e w9 ⟨rfl, hb⟩
          replace HB := Lib.hid (HB.out.trans (hb.mono HB.out.size))
          clear hb
          go_wp2_with fail
          go_ret
          exact ⟨rfl, HB.out⟩
end Go.Proofs.Ytgfmpkcgkjpgnaa
end
section
/-
  DEVICES: what arguments of the statements hold.
-/
namespace Go.Proofs.Ytgfmpkcgkjpgnaa
open Go.ChangeShapes Go.WideShapes Go.ChangeAt Go.RowKit Agg Pg Dv

def FlOk (f : Fl) : Prop := f.Ok ∧ (Lit.int .i64 f.page).wf = true
theorem u64_nat {z : Int} (h : (Lit.int .u64 z).wf = true) : ∃ n : Nat, z = n ∧ n < 18446744073709551616 := by
  simp [Lit.wf, IntKind.min, IntKind.max, IntKind.signed, IntKind.bits] at h
  exact ⟨z.toNat, by omega, by omega⟩
theorem u8_byte {z : Int} (h : (Lit.int .u8 z).wf = true) : ∃ b : UInt8, z = b.toNat := by
  simp [Lit.wf, IntKind.min, IntKind.max, IntKind.signed, IntKind.bits] at h
  exact ⟨UInt8.ofNat z.toNat, by rw [UInt8.toNat_ofNat']; omega⟩
theorem good_int {w : World} {fuel : Nat} {v : Value} (h : Agg.Good Try.prog w fuel 3 [v]) : ∃ z : Int, v = .int .i64 z ∧ (Lit.int .i64 z).wf = true := by
  have hf := good_fits fuel 1 3 [some .i64] [v] (by kernel_rfl) h
  obtain ⟨x, r, he, ⟨z, rfl, hz⟩, _⟩ := Agg.Fits.cons hf
  simp only [List.cons.injEq] at he
  exact ⟨z, he.1, hz⟩
theorem good_bool {w : World} {fuel : Nat} {v : Value} (h : Agg.Good Try.prog w fuel 4 [v]) : ∃ z : Bool, v = .bool z := by
  have hf := good_fits fuel 1 4 [none] [v] (by kernel_rfl) h
  obtain ⟨x, r, he, ⟨z, rfl⟩, _⟩ := Agg.Fits.cons hf
  simp only [List.cons.injEq] at he
  exact ⟨z, he.1⟩
theorem iC_flat : ∀ l : List Int, iC l = l.flatMap (fun z => [Value.int .i64 z])
  | [] => rfl
  | a :: r => by rw [List.flatMap_cons, ← iC_flat r]; rfl
theorem good_ints {w : World} {fuel : Nat} {v : Value} (h : Agg.Good Try.prog w fuel 22 [v]) : ∃ l : List Int, Ints w v l ∧ (∀ z ∈ l, (Lit.int .i64 z).wf = true) ∧ l.length ≤ maxLen := by
  obtain ⟨l, h1, h2, h3⟩ := good_sl (α := Int) Try.underlying22 (sz := 1) (by kernel_rfl) (fun z => [.int .i64 z]) (fun z => (Lit.int .i64 z).wf = true) (fun _ => rfl) (fun fu cs hg => by
    have hf := good_fits fu 1 3 [some .i64] cs (by kernel_rfl) hg
    obtain ⟨x, r, rfl, ⟨z, rfl, hz⟩, hf2⟩ := Agg.Fits.cons hf
    rw [hf2.nil]
    exact ⟨z, rfl, hz⟩) h
  refine ⟨l, ?_, h2, h3⟩
  show SlR _ _ _ _ _
  have e := iC_flat l
  rw [e]; exact h1
/-- a device that is told, in memory -/
def LaidOk (w : World) (x : LaidD) (fv cv : Value) : Prop := Fls w fv x.fills ∧ Fls w cv x.cache ∧ (∀ f ∈ x.fills, FlOk f) ∧ ∀ f ∈ x.cache, FlOk f
theorem LaidOk.keep {w w' : World} {x : LaidD} {fv cv : Value} (h : LaidOk w x fv cv) (hb : Below w.heap.size w w') : LaidOk w' x fv cv := ⟨SlR.keep h.1 hb, SlR.keep h.2.1 hb, h.2.2⟩
/-- an op, in memory -/
def OpOk (w : World) (o : OpD) (mv : Value) : Prop := FlOk o.fl ∧ Ints w mv o.ms ∧ (Lit.int .i64 o.n).wf = true
theorem OpOk.keep {w w' : World} {o : OpD} {mv : Value} (h : OpOk w o mv) (hb : Below w.heap.size w w') : OpOk w' o mv := ⟨h.1, SlR.keep h.2.1 hb, h.2.2⟩
/-- ops in memory -/
def opsC (l : List (OpD × Value)) : List Value := l.flatMap fun x => opC x.1 x.2
def Opss (w : World) (v : Value) (l : List (OpD × Value)) : Prop := SlR w v 9 l.length (opsC l) ∧ ∀ x ∈ l, OpOk w x.1 x.2
theorem Opss.keep {w w' : World} {v : Value} {l : List (OpD × Value)} (h : Opss w v l) (hb : Below w.heap.size w w') : Opss w' v l := ⟨SlR.keep h.1 hb, fun x hx => (h.2 x hx).keep hb⟩
end Go.Proofs.Ytgfmpkcgkjpgnaa
end
