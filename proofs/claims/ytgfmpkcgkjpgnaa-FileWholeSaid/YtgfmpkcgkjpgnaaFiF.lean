/-
  FILES: the file that lies on pages, page behind page.
-/
import Derived.Test.YtgfmpkcgkjpgnaaFiE
namespace Go.Proofs.Ytgfmpkcgkjpgnaa
open Go.ChangeShapes Go.WideShapes Go.ChangeAt Go.RowKit Agg Pg Dv Fi
attribute [local go_sem] Oper.semAt_some

set_option maxHeartbeats 4000000 in
set_option maxRecDepth 100000 in
theorem getC_any (d : Dev) (A : List Int) (kind bytes : Int) (dv : Value) (ax : Option Addr) (ac ba bd bk bt : Nat) (px cx : Option Addr) (pc cc : Nat) (w : World) (hd : DGood d) (hc : d.cache.length ≤ 10000)
    (hba : Blk w ba 22 [.slice ax A.length ac]) (hbd : Blk w bd 46 [.slice px d.pages.length pc, .slice cx d.cache.length cc, .int .i64 d.fuse, .bool d.off]) (hbk : Blk w bk 3 [.int .i64 kind]) (hbt : Blk w bt 3 [.int .i64 bytes])
    (hA : Ints w (.slice ax A.length ac) A) (hD : DevR w (.agg #[.slice px d.pages.length pc, .slice cx d.cache.length cc, .int .i64 d.fuse, .bool d.off]) d) (hal : A.length ≤ 1000) (hb1 : -100000000 ≤ bytes) (hb2 : bytes ≤ 9223372036854775807) :
    Calls Try.prog 51 #[.pointer (some ⟨ba, 0, none⟩), .pointer (some ⟨bd, 0, none⟩), .pointer (some ⟨bk, 0, none⟩), .pointer (some ⟨bt, 0, none⟩)] w fun e w' => ∃ u, e = .returned (.tuple #[u, .int .i64 (getsP d kind bytes 0 0 [] A).2]) ∧ w'.ownsRow w.heap.size 5 1 u (getsP d kind bytes 0 0 [] A).1.length (bv (getsP d kind bytes 0 0 [] A).1) ∧ Below w.heap.size w w' := by
  obtain ⟨R, hR⟩ : ∃ R, getsP d kind bytes 0 0 [] A = R := ⟨_, rfl⟩
  rw [hR]
  have HR0 := Lib.hid hR
  have HDG := Lib.hid hd
  have HBA := Lib.hid hba
  have HBD := Lib.hid hbd
  have HBK := Lib.hid hbk
  have HBT := Lib.hid hbt
  have HA := Lib.hid hA
  have HD := Lib.hid hD
  have HA0 := HA
  clear hR hd hba hbd hbk hbt hA hD
  have HBA0 := HBA
  have HBD0 := HBD
  have HBK0 := HBK
  have HBT0 := HBT
  have HD0 := HD
  have hnil : ∀ w W : World, W.ownsRow w.heap.size 5 1 (.slice none 0 0) 0 (bv []) := fun w W => World.ownsRow_nil _ _ _ _
  have HB := Lib.hid (Below.refl w.heap.size w)
  go_enter Try.func51, Try.ntmps51
  have c0 := HBA.out.cell 0
  simp only [List.getElem?_cons_zero] at c0
  go_wp2_with fail
  clear c0 HBA HBD HBK HBT HA HD
  go_loopw [16, 6, 7] (fun ix s6 s7 wr => ∃ (k f : Nat) (O : List UInt8), k ≤ A.length ∧ ix = .int .i64 k ∧ s7 = .int .u64 f ∧ f ≤ 4611686018427387904 ∧ O.length ≤ 120 * k ∧ getsP d kind bytes k f O (A.drop k) = R ∧ wr.ownsRow w.heap.size 5 1 s6 O.length (bv O) ∧ Below w.heap.size w wr) (fun ix _ _ _ => A.length - (intOf ix).toNat)
  case atStart => exact ⟨0, 0, [], by omega, rfl, rfl, by omega, by simp, HR0.out, hnil _ _, HB.out⟩
  case round =>
    obtain ⟨k, f, O, hk, rfl, rfl, hf, hO, hrk, ho, hb⟩ := hrel
    have HRK := Lib.hid hrk
    have HO := Lib.hid ho
    have HB := Lib.hid hb
    have HBA := Lib.hid (HBA0.out.keep hb)
    have HBD := Lib.hid (HBD0.out.keep hb)
    have HBK := Lib.hid (HBK0.out.keep hb)
    have HBT := Lib.hid (HBT0.out.keep hb)
    have HD := Lib.hid (HD0.out.keep hb)
    have HA := Lib.hid (SlR.keep HA0.out hb)
    obtain ⟨xo, co, rfl, _, _⟩ := (ownSl ho).shape
    clear hrk ho hb
    obtain ⟨wA, hwA⟩ : ∃ x, x = wr := ⟨_, rfl⟩
    subst hwA
    by_cases hlt : k < A.length
    · obtain ⟨ab, aof, ac', hve, _, _, _, _⟩ := SlR.pos HA.out (by decide) (by omega)
      simp only [Value.slice.injEq, true_and] at hve
      obtain ⟨rfl, rfl⟩ := hve
      have hcell := ints_at HA.out hlt
      have hrk := HRK.out
      rw [List.drop_eq_getElem_cons hlt, getsP] at hrk
      obtain ⟨a, ha⟩ : ∃ y, A[k] = y := ⟨_, rfl⟩
      rw [ha] at hcell hrk
      obtain ⟨⟨e1, b1⟩, hrd⟩ : ∃ r, readP d a = r := ⟨_, rfl⟩
      have hbo : BOk b1 := by
        have h := readP_bok HDG.out a
        rw [hrd] at h; exact h
      rw [hrd] at hrk
      have HRD := Lib.hid hrd
      have HRX := Lib.hid hrk
      have HBO := Lib.hid hbo
      clear ha hrk hrd hbo HRK
      have hre := fun W (hW : DevR W (.agg #[.slice px d.pages.length pc, .slice cx d.cache.length cc, .int .i64 d.fuse, .bool d.off]) d) => read_R HDG.out (by omega) hW a
      rw [HRD.out] at hre
      have HRE := Lib.hid hre
      clear hre
      have hbd := HBD.out
      go_wp2_with (refine Agg.gLoadB 4 hbd rfl rfl rfl rfl (by decide +kernel) ?_; simp only [Act.put, List.setIfInBounds_toArray, List.set_cons_succ, List.set_cons_zero])
      clear hbd hcell
      refine (HRE.out wA HD.out).mono ?_
      rintro e w21 ⟨rfl, hb⟩
      replace HB := Lib.hid (HB.out.trans (hb.mono HB.out.size))
      replace HBA := Lib.hid (HBA.out.keep hb)
      replace HBD := Lib.hid (HBD.out.keep hb)
      replace HBK := Lib.hid (HBK.out.keep hb)
      replace HBT := Lib.hid (HBT.out.keep hb)
      replace HD := Lib.hid (HD.out.keep hb)
      replace HO := Lib.hid (HO.out.keep hb)
      clear hb
      clear HRE
      have h132 := bok_cells HBO.out
      have hone := blkC_one b1
      by_cases he1 : e1 = 0
      · subst he1
        have hrx := HRX.out
        rw [if_neg (by simp)] at hrx
        go_upto_region 7 with (first
          | (refine Agg.allocRow 64 (blkC zeroB).toArray rfl rfl (by kernel_rfl) ?_; simp only [Act.put, List.setIfInBounds_toArray, List.set_cons_succ, List.set_cons_zero])
          | (refine Agg.gStoreNew 132 (blkC b1) rfl rfl rfl rfl rfl rfl (by decide +kernel) h132 zero132 hone ?_; simp only [Act.put]))
        refine Agg.wp_at fun w22 hw22 => ?_
        have hb : Below w21.heap.size w21 w22 := by rw [hw22.out]; repeat (first | exact Below.refl _ _ | refine Agg.bel_drew ?_ | refine Agg.bel_alloc ?_ _)
        replace HB := Lib.hid (HB.out.trans (hb.mono HB.out.size))
        replace HBA := Lib.hid (HBA.out.keep hb)
        replace HBD := Lib.hid (HBD.out.keep hb)
        replace HBK := Lib.hid (HBK.out.keep hb)
        replace HBT := Lib.hid (HBT.out.keep hb)
        replace HD := Lib.hid (HD.out.keep hb)
        replace HO := Lib.hid (HO.out.keep hb)
        clear hb
        have HX : Hid (Blk w22 w21.heap.size 64 (blkC b1)) := by show Blk _ _ _ _; rw [hw22.out]; exact Blk.new w21 64 (blkC b1).toArray
        clear hw22
        obtain ⟨bx, hbx⟩ : ∃ b, w21.heap.size = b := ⟨_, rfl⟩
        rw [hbx] at HX ⊢
        clear hbx
        obtain ⟨⟨⟨k2, d2⟩, n2, e2⟩, hrr⟩ : ∃ r, readR b1 = r := ⟨_, rfl⟩
        rw [hrr] at hrx
        have hcs := readR_cases b1 HBO.out k2 d2 n2 e2 hrr
        have HRR := Lib.hid hrr
        have HRX2 := Lib.hid hrx
        clear hrx hrr HRX
        have hx := HX.out
        go_wp2_with (refine Agg.gLoadB 132 hx h132 rfl rfl rfl (by decide +kernel) ?_; simp only [Act.put, List.setIfInBounds_toArray, List.set_cons_succ, List.set_cons_zero])
        clear hx h132 hone
        refine (pgRead_any b1 HBO.out w22 k2 d2 n2 e2 HRR.out).mono ?_
        rintro e w23 ⟨u2, rfl, hu2, hb⟩
        replace HB := Lib.hid (HB.out.trans (hb.mono HB.out.size))
        replace HBK := Lib.hid (HBK.out.keep hb)
        replace HBT := Lib.hid (HBT.out.keep hb)
        replace HO := Lib.hid (HO.out.keep hb)
        clear hb
        obtain ⟨ux, uc, rfl, _, _⟩ := (ownSl hu2).shape
        have HU := Lib.hid hu2
        clear hu2
        go_upto_region 10 with (first
          | (refine Agg.allocRow 101 #[.int .i64 0, .slice none 0 0] rfl rfl (by kernel_rfl) ?_; simp only [Act.put, List.setIfInBounds_toArray, List.set_cons_succ, List.set_cons_zero])
          | (refine Agg.gStoreNew 2 [.int .i64 k2, .slice ux d2.length uc] rfl rfl rfl rfl rfl rfl (by decide +kernel) rfl rfl (by simp [Value.oneCell']) ?_; simp only [Act.put]))
        refine Agg.wp_at fun w24 hw24 => ?_
        have hb : Below w23.heap.size w23 w24 := by rw [hw24.out]; repeat (first | exact Below.refl _ _ | refine Agg.bel_drew ?_ | refine Agg.bel_alloc ?_ _)
        replace HB := Lib.hid (HB.out.trans (hb.mono HB.out.size))
        replace HBK := Lib.hid (HBK.out.keep hb)
        replace HBT := Lib.hid (HBT.out.keep hb)
        replace HO := Lib.hid (HO.out.keep hb)
        replace HU := Lib.hid (HU.out.keep hb)
        clear hb
        have HPG : Hid (Blk w24 w23.heap.size 101 [.int .i64 k2, .slice ux d2.length uc]) := by show Blk _ _ _ _; rw [hw24.out]; exact Blk.new w23 101 #[.int .i64 k2, .slice ux d2.length uc]
        clear hw24
        obtain ⟨bp, hbp⟩ : ∃ b, w23.heap.size = b := ⟨_, rfl⟩
        rw [hbp] at HPG ⊢
        clear hbp
        obtain ⟨mm, hmm⟩ : ∃ m, min (bytes - O.length) 120 = m := ⟨_, rfl⟩
        have HMM := Lib.hid hmm
        have hd120 : e2 = 0 → d2.length ≤ 120 ∧ n2 ≤ 4611686018427387904 := fun h => by
          rcases hcs with ⟨_, h1, h2, _⟩ | ⟨h1, _⟩
          · exact ⟨h1.2.2, h2.2⟩
          · exact absurd h h1
        rw [hmm] at HRX2
        have HBC := HB
        clear hmm hcs HRR HX
        have HWK : Hid (IntKind.u64.wrap (k : Int) = (k : Int)) := Lib.hid (u64_small (by omega) (by omega))
        have hO2 : O.length ≤ 120000 := by omega
        by_cases hk0 : k = 0
        · have hkb : ((k : Int) == 0) = true := by simp [hk0]
          have hrx := HRX2.out
          rw [if_pos hk0] at hrx
          go_upto_region 12 with (fail)
          by_cases h1 : e2 = 0
          · obtain ⟨hd1, hd2⟩ := hd120 h1
            have hf2 : n2 ≤ 4611686018427387904 := by omega
            have HWA : Hid (some (IntKind.u64.wrap ((n2 : Int) + (k : Int))) = some ((n2 + k : Nat) : Int)) := Lib.hid (by rw [u64_small (by omega) (by omega)]; congr 1)
            clear hd120
            by_cases h2 : k2 = kind
            · have h2b := h2
              by_cases h3 : (n2 : Int) = ((n2 + k : Nat) : Int)
              · have h3b := h3
                by_cases h4 : (d2.length : Int) = mm
                · rw [if_pos ⟨h1, h2, by omega, h4⟩] at hrx
                  have HRX3 := Lib.hid hrx
                  clear hrx HRX2
                  refine Agg.listR 27 (by kernel_rfl) ?_
                  simp only [List.take_succ_cons, List.take_zero, List.drop_succ_cons, List.drop_zero]
                  refine Agg.chMove rfl rfl rfl rfl ?_
                  refine Agg.chNe false (bne_eq_false_iff_eq.2 h1) rfl rfl rfl rfl rfl ?_
                  refine Agg.chMove rfl rfl rfl rfl ?_
                  refine Agg.chFA fo_Page_0 rfl rfl rfl rfl ?_
                  refine Agg.chLoadB HPG.out (by decide +kernel) rfl rfl (by rfl) rfl rfl ?_
                  refine Agg.chLoadB HBK.out (by decide +kernel) rfl rfl (by rfl) rfl rfl ?_
                  refine Agg.chNe false (bne_eq_false_iff_eq.2 h2) rfl rfl rfl rfl rfl ?_
                  refine Agg.chPick rfl rfl rfl rfl rfl ?_
                  refine Agg.chMove rfl rfl rfl rfl ?_
                  refine Agg.chMove rfl rfl rfl rfl ?_
                  refine Agg.chMove rfl rfl rfl rfl ?_
                  refine Agg.chMove rfl rfl rfl rfl ?_
                  refine Agg.chInt (k : Int) HWK.out (by kernel_rfl) Try.underlying42 rfl rfl rfl rfl ?_
                  refine Agg.chAr (r := ((n2 + k : Nat) : Int)) rfl rfl rfl HWA.out rfl rfl ?_
                  refine Agg.chNe false (bne_eq_false_iff_eq.2 h3) rfl rfl rfl rfl rfl ?_
                  refine Agg.chPick rfl rfl rfl rfl rfl ?_
                  refine Agg.chMove rfl rfl rfl rfl ?_
                  refine Agg.chFA fo_Page_1 rfl rfl rfl rfl ?_
                  refine Agg.chLoadB HPG.out (by decide +kernel) rfl rfl (by rfl) rfl rfl ?_
                  refine Agg.chLen Try.underlying39 rfl rfl rfl rfl ?_
                  refine Agg.chLoadB HBT.out (by decide +kernel) rfl rfl (by rfl) rfl rfl ?_
                  refine Agg.chMove rfl rfl rfl rfl ?_
                  refine Agg.chLen Try.underlying39 rfl rfl rfl rfl ?_
                  refine Agg.chAr64 rfl rfl rfl rfl (by omega) (by omega) rfl rfl ?_
                  refine Agg.chMin2 mm HMM.out rfl rfl rfl rfl rfl ?_
                  refine Agg.chNe false (bne_eq_false_iff_eq.2 h4) rfl rfl rfl rfl rfl ?_
                  refine Agg.chPick rfl rfl rfl rfl rfl ?_
                  refine Agg.chEnd ?_
                  intro vs w25 hb _
                  show Exit.then _ _ Exit.normal _ _
                  simp only [List.reverse, List.reverseAux, Agg.fill, List.set_cons_succ, List.set_cons_zero]
                  replace HB := Lib.hid (HB.out.trans (hb.mono HB.out.size))
                  replace HBK := Lib.hid (HBK.out.keep hb)
                  replace HBT := Lib.hid (HBT.out.keep hb)
                  replace HO := Lib.hid (HO.out.keep hb)
                  replace HU := Lib.hid (HU.out.keep hb)
                  replace HPG := Lib.hid (HPG.out.keep hb)
                  clear hb
                  have hx := HPG.out.cell 1
                  simp only [List.getElem?_cons_succ, List.getElem?_cons_zero] at hx
                  have hub := ownSl HU.out
                  have hsz := HB.out.size
                  go_wp2_with (refine Agg.append2 ti25 (.tmp 66) (.tmp 68) rfl rfl w.heap.size (v := .slice xo O.length co) rfl HO.out rfl hub (bv_one d2) (by unfold maxLen; omega) (by omega) hsz (fun v2 w4 hC4 hg4 hwh => ?_); simp only [Act.put, List.setIfInBounds_toArray, List.set_cons_succ, List.set_cons_zero])
                  have hB4 := HB.out.trans (grown_below hg4 hsz (own_block HO.out))
                  refine ⟨⟨k + 1, n2, O ++ d2, by omega, by go_num, rfl, hf2, by rw [List.length_append]; omega, HRX3.out, by rw [List.length_append, bv_append]; exact hC4, hB4⟩, by simp [intOf]; omega⟩
                · rw [if_neg (fun h => h4 h.2.2.2)] at hrx
                  subst hrx
                  clear HRX2
                  refine Agg.listR 27 (by kernel_rfl) ?_
                  simp only [List.take_succ_cons, List.take_zero, List.drop_succ_cons, List.drop_zero]
                  refine Agg.chMove rfl rfl rfl rfl ?_
                  refine Agg.chNe false (bne_eq_false_iff_eq.2 h1) rfl rfl rfl rfl rfl ?_
                  refine Agg.chMove rfl rfl rfl rfl ?_
                  refine Agg.chFA fo_Page_0 rfl rfl rfl rfl ?_
                  refine Agg.chLoadB HPG.out (by decide +kernel) rfl rfl (by rfl) rfl rfl ?_
                  refine Agg.chLoadB HBK.out (by decide +kernel) rfl rfl (by rfl) rfl rfl ?_
                  refine Agg.chNe false (bne_eq_false_iff_eq.2 h2) rfl rfl rfl rfl rfl ?_
                  refine Agg.chPick rfl rfl rfl rfl rfl ?_
                  refine Agg.chMove rfl rfl rfl rfl ?_
                  refine Agg.chMove rfl rfl rfl rfl ?_
                  refine Agg.chMove rfl rfl rfl rfl ?_
                  refine Agg.chMove rfl rfl rfl rfl ?_
                  refine Agg.chInt (k : Int) HWK.out (by kernel_rfl) Try.underlying42 rfl rfl rfl rfl ?_
                  refine Agg.chAr (r := ((n2 + k : Nat) : Int)) rfl rfl rfl HWA.out rfl rfl ?_
                  refine Agg.chNe false (bne_eq_false_iff_eq.2 h3) rfl rfl rfl rfl rfl ?_
                  refine Agg.chPick rfl rfl rfl rfl rfl ?_
                  refine Agg.chMove rfl rfl rfl rfl ?_
                  refine Agg.chFA fo_Page_1 rfl rfl rfl rfl ?_
                  refine Agg.chLoadB HPG.out (by decide +kernel) rfl rfl (by rfl) rfl rfl ?_
                  refine Agg.chLen Try.underlying39 rfl rfl rfl rfl ?_
                  refine Agg.chLoadB HBT.out (by decide +kernel) rfl rfl (by rfl) rfl rfl ?_
                  refine Agg.chMove rfl rfl rfl rfl ?_
                  refine Agg.chLen Try.underlying39 rfl rfl rfl rfl ?_
                  refine Agg.chAr64 rfl rfl rfl rfl (by omega) (by omega) rfl rfl ?_
                  refine Agg.chMin2 mm HMM.out rfl rfl rfl rfl rfl ?_
                  refine Agg.chNe true (bne_iff_ne.2 h4) rfl rfl rfl rfl rfl ?_
                  refine Agg.chPick rfl rfl rfl rfl rfl ?_
                  refine Agg.chEnd ?_
                  intro vs w26 hb _
                  show Exit.then _ _ Exit.normal _ _
                  simp only [List.reverse, List.reverseAux, Agg.fill, List.set_cons_succ, List.set_cons_zero]
                  replace HB := Lib.hid (HB.out.trans (hb.mono HB.out.size))
                  replace HBK := Lib.hid (HBK.out.keep hb)
                  replace HBT := Lib.hid (HBT.out.keep hb)
                  replace HO := Lib.hid (HO.out.keep hb)
                  replace HU := Lib.hid (HU.out.keep hb)
                  replace HPG := Lib.hid (HPG.out.keep hb)
                  clear hb
                  go_wp2_with fail
                  go_ret2
                  exact ⟨_, rfl, hnil _ _, HB.out⟩
              · rw [if_neg (fun h => h3 (by have := h.2.2.1; omega))] at hrx
                subst hrx
                clear HRX2
                refine Agg.listR 27 (by kernel_rfl) ?_
                simp only [List.take_succ_cons, List.take_zero, List.drop_succ_cons, List.drop_zero]
                refine Agg.chMove rfl rfl rfl rfl ?_
                refine Agg.chNe false (bne_eq_false_iff_eq.2 h1) rfl rfl rfl rfl rfl ?_
                refine Agg.chMove rfl rfl rfl rfl ?_
                refine Agg.chFA fo_Page_0 rfl rfl rfl rfl ?_
                refine Agg.chLoadB HPG.out (by decide +kernel) rfl rfl (by rfl) rfl rfl ?_
                refine Agg.chLoadB HBK.out (by decide +kernel) rfl rfl (by rfl) rfl rfl ?_
                refine Agg.chNe false (bne_eq_false_iff_eq.2 h2) rfl rfl rfl rfl rfl ?_
                refine Agg.chPick rfl rfl rfl rfl rfl ?_
                refine Agg.chMove rfl rfl rfl rfl ?_
                refine Agg.chMove rfl rfl rfl rfl ?_
                refine Agg.chMove rfl rfl rfl rfl ?_
                refine Agg.chMove rfl rfl rfl rfl ?_
                refine Agg.chInt (k : Int) HWK.out (by kernel_rfl) Try.underlying42 rfl rfl rfl rfl ?_
                refine Agg.chAr (r := ((n2 + k : Nat) : Int)) rfl rfl rfl HWA.out rfl rfl ?_
                refine Agg.chNe true (bne_iff_ne.2 h3) rfl rfl rfl rfl rfl ?_
                refine Agg.chPick rfl rfl rfl rfl rfl ?_
                refine Agg.chMove rfl rfl rfl rfl ?_
                refine Agg.chSkip rfl rfl ?_
                refine Agg.chSkip rfl rfl ?_
                refine Agg.chSkip rfl rfl ?_
                refine Agg.chSkip rfl rfl ?_
                refine Agg.chSkip rfl rfl ?_
                refine Agg.chSkip rfl rfl ?_
                refine Agg.chSkip rfl rfl ?_
                refine Agg.chSkip rfl rfl ?_
                refine Agg.chSkip rfl rfl ?_
                refine Agg.chPick rfl rfl rfl rfl rfl ?_
                refine Agg.chEnd ?_
                intro vs w27 hb _
                show Exit.then _ _ Exit.normal _ _
                simp only [List.reverse, List.reverseAux, Agg.fill, List.set_cons_succ, List.set_cons_zero]
                replace HB := Lib.hid (HB.out.trans (hb.mono HB.out.size))
                replace HBK := Lib.hid (HBK.out.keep hb)
                replace HBT := Lib.hid (HBT.out.keep hb)
                replace HO := Lib.hid (HO.out.keep hb)
                replace HU := Lib.hid (HU.out.keep hb)
                replace HPG := Lib.hid (HPG.out.keep hb)
                clear hb
                go_wp2_with fail
                go_ret2
                exact ⟨_, rfl, hnil _ _, HB.out⟩
            · rw [if_neg (fun h => h2 h.2.1)] at hrx
              subst hrx
              clear HRX2
              refine Agg.listR 27 (by kernel_rfl) ?_
              simp only [List.take_succ_cons, List.take_zero, List.drop_succ_cons, List.drop_zero]
              refine Agg.chMove rfl rfl rfl rfl ?_
              refine Agg.chNe false (bne_eq_false_iff_eq.2 h1) rfl rfl rfl rfl rfl ?_
              refine Agg.chMove rfl rfl rfl rfl ?_
              refine Agg.chFA fo_Page_0 rfl rfl rfl rfl ?_
              refine Agg.chLoadB HPG.out (by decide +kernel) rfl rfl (by rfl) rfl rfl ?_
              refine Agg.chLoadB HBK.out (by decide +kernel) rfl rfl (by rfl) rfl rfl ?_
              refine Agg.chNe true (bne_iff_ne.2 h2) rfl rfl rfl rfl rfl ?_
              refine Agg.chPick rfl rfl rfl rfl rfl ?_
              refine Agg.chMove rfl rfl rfl rfl ?_
              refine Agg.chSkip rfl rfl ?_
              refine Agg.chSkip rfl rfl ?_
              refine Agg.chSkip rfl rfl ?_
              refine Agg.chSkip rfl rfl ?_
              refine Agg.chSkip rfl rfl ?_
              refine Agg.chSkip rfl rfl ?_
              refine Agg.chPick rfl rfl rfl rfl rfl ?_
              refine Agg.chMove rfl rfl rfl rfl ?_
              refine Agg.chSkip rfl rfl ?_
              refine Agg.chSkip rfl rfl ?_
              refine Agg.chSkip rfl rfl ?_
              refine Agg.chSkip rfl rfl ?_
              refine Agg.chSkip rfl rfl ?_
              refine Agg.chSkip rfl rfl ?_
              refine Agg.chSkip rfl rfl ?_
              refine Agg.chSkip rfl rfl ?_
              refine Agg.chSkip rfl rfl ?_
              refine Agg.chPick rfl rfl rfl rfl rfl ?_
              refine Agg.chEnd ?_
              intro vs w28 hb _
              show Exit.then _ _ Exit.normal _ _
              simp only [List.reverse, List.reverseAux, Agg.fill, List.set_cons_succ, List.set_cons_zero]
              replace HB := Lib.hid (HB.out.trans (hb.mono HB.out.size))
              replace HBK := Lib.hid (HBK.out.keep hb)
              replace HBT := Lib.hid (HBT.out.keep hb)
              replace HO := Lib.hid (HO.out.keep hb)
              replace HU := Lib.hid (HU.out.keep hb)
              replace HPG := Lib.hid (HPG.out.keep hb)
              clear hb
              go_wp2_with fail
              go_ret2
              exact ⟨_, rfl, hnil _ _, HB.out⟩
          · rw [if_neg (fun h => h1 h.1)] at hrx
            subst hrx
            clear HRX2
            refine Agg.listR 27 (by kernel_rfl) ?_
            simp only [List.take_succ_cons, List.take_zero, List.drop_succ_cons, List.drop_zero]
            refine Agg.chMove rfl rfl rfl rfl ?_
            refine Agg.chNe true (bne_iff_ne.2 h1) rfl rfl rfl rfl rfl ?_
            refine Agg.chMove rfl rfl rfl rfl ?_
            refine Agg.chSkip rfl rfl ?_
            refine Agg.chSkip rfl rfl ?_
            refine Agg.chSkip rfl rfl ?_
            refine Agg.chSkip rfl rfl ?_
            refine Agg.chPick rfl rfl rfl rfl rfl ?_
            refine Agg.chMove rfl rfl rfl rfl ?_
            refine Agg.chSkip rfl rfl ?_
            refine Agg.chSkip rfl rfl ?_
            refine Agg.chSkip rfl rfl ?_
            refine Agg.chSkip rfl rfl ?_
            refine Agg.chSkip rfl rfl ?_
            refine Agg.chSkip rfl rfl ?_
            refine Agg.chPick rfl rfl rfl rfl rfl ?_
            refine Agg.chMove rfl rfl rfl rfl ?_
            refine Agg.chSkip rfl rfl ?_
            refine Agg.chSkip rfl rfl ?_
            refine Agg.chSkip rfl rfl ?_
            refine Agg.chSkip rfl rfl ?_
            refine Agg.chSkip rfl rfl ?_
            refine Agg.chSkip rfl rfl ?_
            refine Agg.chSkip rfl rfl ?_
            refine Agg.chSkip rfl rfl ?_
            refine Agg.chSkip rfl rfl ?_
            refine Agg.chPick rfl rfl rfl rfl rfl ?_
            refine Agg.chEnd ?_
            intro vs w29 hb _
            show Exit.then _ _ Exit.normal _ _
            simp only [List.reverse, List.reverseAux, Agg.fill, List.set_cons_succ, List.set_cons_zero]
            replace HB := Lib.hid (HB.out.trans (hb.mono HB.out.size))
            replace HBK := Lib.hid (HBK.out.keep hb)
            replace HBT := Lib.hid (HBT.out.keep hb)
            replace HO := Lib.hid (HO.out.keep hb)
            replace HU := Lib.hid (HU.out.keep hb)
            replace HPG := Lib.hid (HPG.out.keep hb)
            clear hb
            go_wp2_with fail
            go_ret2
            exact ⟨_, rfl, hnil _ _, HB.out⟩
        · have hkb : ((k : Int) == 0) = false := by simp [hk0]
          have hrx := HRX2.out
          rw [if_neg hk0] at hrx
          go_upto_region 12 with (fail)
          by_cases h1 : e2 = 0
          · obtain ⟨hd1, hd2⟩ := hd120 h1
            have hf2 : f ≤ 4611686018427387904 := by omega
            have HWA : Hid (some (IntKind.u64.wrap ((f : Int) + (k : Int))) = some ((f + k : Nat) : Int)) := Lib.hid (by rw [u64_small (by omega) (by omega)]; congr 1)
            clear hd120
            by_cases h2 : k2 = kind
            · have h2b := h2
              by_cases h3 : (n2 : Int) = ((f + k : Nat) : Int)
              · have h3b := h3
                by_cases h4 : (d2.length : Int) = mm
                · rw [if_pos ⟨h1, h2, by omega, h4⟩] at hrx
                  have HRX3 := Lib.hid hrx
                  clear hrx HRX2
                  refine Agg.listR 27 (by kernel_rfl) ?_
                  simp only [List.take_succ_cons, List.take_zero, List.drop_succ_cons, List.drop_zero]
                  refine Agg.chMove rfl rfl rfl rfl ?_
                  refine Agg.chNe false (bne_eq_false_iff_eq.2 h1) rfl rfl rfl rfl rfl ?_
                  refine Agg.chMove rfl rfl rfl rfl ?_
                  refine Agg.chFA fo_Page_0 rfl rfl rfl rfl ?_
                  refine Agg.chLoadB HPG.out (by decide +kernel) rfl rfl (by rfl) rfl rfl ?_
                  refine Agg.chLoadB HBK.out (by decide +kernel) rfl rfl (by rfl) rfl rfl ?_
                  refine Agg.chNe false (bne_eq_false_iff_eq.2 h2) rfl rfl rfl rfl rfl ?_
                  refine Agg.chPick rfl rfl rfl rfl rfl ?_
                  refine Agg.chMove rfl rfl rfl rfl ?_
                  refine Agg.chMove rfl rfl rfl rfl ?_
                  refine Agg.chMove rfl rfl rfl rfl ?_
                  refine Agg.chMove rfl rfl rfl rfl ?_
                  refine Agg.chInt (k : Int) HWK.out (by kernel_rfl) Try.underlying42 rfl rfl rfl rfl ?_
                  refine Agg.chAr (r := ((f + k : Nat) : Int)) rfl rfl rfl HWA.out rfl rfl ?_
                  refine Agg.chNe false (bne_eq_false_iff_eq.2 h3) rfl rfl rfl rfl rfl ?_
                  refine Agg.chPick rfl rfl rfl rfl rfl ?_
                  refine Agg.chMove rfl rfl rfl rfl ?_
                  refine Agg.chFA fo_Page_1 rfl rfl rfl rfl ?_
                  refine Agg.chLoadB HPG.out (by decide +kernel) rfl rfl (by rfl) rfl rfl ?_
                  refine Agg.chLen Try.underlying39 rfl rfl rfl rfl ?_
                  refine Agg.chLoadB HBT.out (by decide +kernel) rfl rfl (by rfl) rfl rfl ?_
                  refine Agg.chMove rfl rfl rfl rfl ?_
                  refine Agg.chLen Try.underlying39 rfl rfl rfl rfl ?_
                  refine Agg.chAr64 rfl rfl rfl rfl (by omega) (by omega) rfl rfl ?_
                  refine Agg.chMin2 mm HMM.out rfl rfl rfl rfl rfl ?_
                  refine Agg.chNe false (bne_eq_false_iff_eq.2 h4) rfl rfl rfl rfl rfl ?_
                  refine Agg.chPick rfl rfl rfl rfl rfl ?_
                  refine Agg.chEnd ?_
                  intro vs w30 hb _
                  show Exit.then _ _ Exit.normal _ _
                  simp only [List.reverse, List.reverseAux, Agg.fill, List.set_cons_succ, List.set_cons_zero]
                  replace HB := Lib.hid (HB.out.trans (hb.mono HB.out.size))
                  replace HBK := Lib.hid (HBK.out.keep hb)
                  replace HBT := Lib.hid (HBT.out.keep hb)
                  replace HO := Lib.hid (HO.out.keep hb)
                  replace HU := Lib.hid (HU.out.keep hb)
                  replace HPG := Lib.hid (HPG.out.keep hb)
                  clear hb
                  have hx := HPG.out.cell 1
                  simp only [List.getElem?_cons_succ, List.getElem?_cons_zero] at hx
                  have hub := ownSl HU.out
                  have hsz := HB.out.size
                  go_wp2_with (refine Agg.append2 ti25 (.tmp 66) (.tmp 68) rfl rfl w.heap.size (v := .slice xo O.length co) rfl HO.out rfl hub (bv_one d2) (by unfold maxLen; omega) (by omega) hsz (fun v2 w4 hC4 hg4 hwh => ?_); simp only [Act.put, List.setIfInBounds_toArray, List.set_cons_succ, List.set_cons_zero])
                  have hB4 := HB.out.trans (grown_below hg4 hsz (own_block HO.out))
                  refine ⟨⟨k + 1, f, O ++ d2, by omega, by go_num, rfl, hf2, by rw [List.length_append]; omega, HRX3.out, by rw [List.length_append, bv_append]; exact hC4, hB4⟩, by simp [intOf]; omega⟩
                · rw [if_neg (fun h => h4 h.2.2.2)] at hrx
                  subst hrx
                  clear HRX2
                  refine Agg.listR 27 (by kernel_rfl) ?_
                  simp only [List.take_succ_cons, List.take_zero, List.drop_succ_cons, List.drop_zero]
                  refine Agg.chMove rfl rfl rfl rfl ?_
                  refine Agg.chNe false (bne_eq_false_iff_eq.2 h1) rfl rfl rfl rfl rfl ?_
                  refine Agg.chMove rfl rfl rfl rfl ?_
                  refine Agg.chFA fo_Page_0 rfl rfl rfl rfl ?_
                  refine Agg.chLoadB HPG.out (by decide +kernel) rfl rfl (by rfl) rfl rfl ?_
                  refine Agg.chLoadB HBK.out (by decide +kernel) rfl rfl (by rfl) rfl rfl ?_
                  refine Agg.chNe false (bne_eq_false_iff_eq.2 h2) rfl rfl rfl rfl rfl ?_
                  refine Agg.chPick rfl rfl rfl rfl rfl ?_
                  refine Agg.chMove rfl rfl rfl rfl ?_
                  refine Agg.chMove rfl rfl rfl rfl ?_
                  refine Agg.chMove rfl rfl rfl rfl ?_
                  refine Agg.chMove rfl rfl rfl rfl ?_
                  refine Agg.chInt (k : Int) HWK.out (by kernel_rfl) Try.underlying42 rfl rfl rfl rfl ?_
                  refine Agg.chAr (r := ((f + k : Nat) : Int)) rfl rfl rfl HWA.out rfl rfl ?_
                  refine Agg.chNe false (bne_eq_false_iff_eq.2 h3) rfl rfl rfl rfl rfl ?_
                  refine Agg.chPick rfl rfl rfl rfl rfl ?_
                  refine Agg.chMove rfl rfl rfl rfl ?_
                  refine Agg.chFA fo_Page_1 rfl rfl rfl rfl ?_
                  refine Agg.chLoadB HPG.out (by decide +kernel) rfl rfl (by rfl) rfl rfl ?_
                  refine Agg.chLen Try.underlying39 rfl rfl rfl rfl ?_
                  refine Agg.chLoadB HBT.out (by decide +kernel) rfl rfl (by rfl) rfl rfl ?_
                  refine Agg.chMove rfl rfl rfl rfl ?_
                  refine Agg.chLen Try.underlying39 rfl rfl rfl rfl ?_
                  refine Agg.chAr64 rfl rfl rfl rfl (by omega) (by omega) rfl rfl ?_
                  refine Agg.chMin2 mm HMM.out rfl rfl rfl rfl rfl ?_
                  refine Agg.chNe true (bne_iff_ne.2 h4) rfl rfl rfl rfl rfl ?_
                  refine Agg.chPick rfl rfl rfl rfl rfl ?_
                  refine Agg.chEnd ?_
                  intro vs w31 hb _
                  show Exit.then _ _ Exit.normal _ _
                  simp only [List.reverse, List.reverseAux, Agg.fill, List.set_cons_succ, List.set_cons_zero]
                  replace HB := Lib.hid (HB.out.trans (hb.mono HB.out.size))
                  replace HBK := Lib.hid (HBK.out.keep hb)
                  replace HBT := Lib.hid (HBT.out.keep hb)
                  replace HO := Lib.hid (HO.out.keep hb)
                  replace HU := Lib.hid (HU.out.keep hb)
                  replace HPG := Lib.hid (HPG.out.keep hb)
                  clear hb
                  go_wp2_with fail
                  go_ret2
                  exact ⟨_, rfl, hnil _ _, HB.out⟩
              · rw [if_neg (fun h => h3 (by have := h.2.2.1; omega))] at hrx
                subst hrx
                clear HRX2
                refine Agg.listR 27 (by kernel_rfl) ?_
                simp only [List.take_succ_cons, List.take_zero, List.drop_succ_cons, List.drop_zero]
                refine Agg.chMove rfl rfl rfl rfl ?_
                refine Agg.chNe false (bne_eq_false_iff_eq.2 h1) rfl rfl rfl rfl rfl ?_
                refine Agg.chMove rfl rfl rfl rfl ?_
                refine Agg.chFA fo_Page_0 rfl rfl rfl rfl ?_
                refine Agg.chLoadB HPG.out (by decide +kernel) rfl rfl (by rfl) rfl rfl ?_
                refine Agg.chLoadB HBK.out (by decide +kernel) rfl rfl (by rfl) rfl rfl ?_
                refine Agg.chNe false (bne_eq_false_iff_eq.2 h2) rfl rfl rfl rfl rfl ?_
                refine Agg.chPick rfl rfl rfl rfl rfl ?_
                refine Agg.chMove rfl rfl rfl rfl ?_
                refine Agg.chMove rfl rfl rfl rfl ?_
                refine Agg.chMove rfl rfl rfl rfl ?_
                refine Agg.chMove rfl rfl rfl rfl ?_
                refine Agg.chInt (k : Int) HWK.out (by kernel_rfl) Try.underlying42 rfl rfl rfl rfl ?_
                refine Agg.chAr (r := ((f + k : Nat) : Int)) rfl rfl rfl HWA.out rfl rfl ?_
                refine Agg.chNe true (bne_iff_ne.2 h3) rfl rfl rfl rfl rfl ?_
                refine Agg.chPick rfl rfl rfl rfl rfl ?_
                refine Agg.chMove rfl rfl rfl rfl ?_
                refine Agg.chSkip rfl rfl ?_
                refine Agg.chSkip rfl rfl ?_
                refine Agg.chSkip rfl rfl ?_
                refine Agg.chSkip rfl rfl ?_
                refine Agg.chSkip rfl rfl ?_
                refine Agg.chSkip rfl rfl ?_
                refine Agg.chSkip rfl rfl ?_
                refine Agg.chSkip rfl rfl ?_
                refine Agg.chSkip rfl rfl ?_
                refine Agg.chPick rfl rfl rfl rfl rfl ?_
                refine Agg.chEnd ?_
                intro vs w32 hb _
                show Exit.then _ _ Exit.normal _ _
                simp only [List.reverse, List.reverseAux, Agg.fill, List.set_cons_succ, List.set_cons_zero]
                replace HB := Lib.hid (HB.out.trans (hb.mono HB.out.size))
                replace HBK := Lib.hid (HBK.out.keep hb)
                replace HBT := Lib.hid (HBT.out.keep hb)
                replace HO := Lib.hid (HO.out.keep hb)
                replace HU := Lib.hid (HU.out.keep hb)
                replace HPG := Lib.hid (HPG.out.keep hb)
                clear hb
                go_wp2_with fail
                go_ret2
                exact ⟨_, rfl, hnil _ _, HB.out⟩
            · rw [if_neg (fun h => h2 h.2.1)] at hrx
              subst hrx
              clear HRX2
              refine Agg.listR 27 (by kernel_rfl) ?_
              simp only [List.take_succ_cons, List.take_zero, List.drop_succ_cons, List.drop_zero]
              refine Agg.chMove rfl rfl rfl rfl ?_
              refine Agg.chNe false (bne_eq_false_iff_eq.2 h1) rfl rfl rfl rfl rfl ?_
              refine Agg.chMove rfl rfl rfl rfl ?_
              refine Agg.chFA fo_Page_0 rfl rfl rfl rfl ?_
              refine Agg.chLoadB HPG.out (by decide +kernel) rfl rfl (by rfl) rfl rfl ?_
              refine Agg.chLoadB HBK.out (by decide +kernel) rfl rfl (by rfl) rfl rfl ?_
              refine Agg.chNe true (bne_iff_ne.2 h2) rfl rfl rfl rfl rfl ?_
              refine Agg.chPick rfl rfl rfl rfl rfl ?_
              refine Agg.chMove rfl rfl rfl rfl ?_
              refine Agg.chSkip rfl rfl ?_
              refine Agg.chSkip rfl rfl ?_
              refine Agg.chSkip rfl rfl ?_
              refine Agg.chSkip rfl rfl ?_
              refine Agg.chSkip rfl rfl ?_
              refine Agg.chSkip rfl rfl ?_
              refine Agg.chPick rfl rfl rfl rfl rfl ?_
              refine Agg.chMove rfl rfl rfl rfl ?_
              refine Agg.chSkip rfl rfl ?_
              refine Agg.chSkip rfl rfl ?_
              refine Agg.chSkip rfl rfl ?_
              refine Agg.chSkip rfl rfl ?_
              refine Agg.chSkip rfl rfl ?_
              refine Agg.chSkip rfl rfl ?_
              refine Agg.chSkip rfl rfl ?_
              refine Agg.chSkip rfl rfl ?_
              refine Agg.chSkip rfl rfl ?_
              refine Agg.chPick rfl rfl rfl rfl rfl ?_
              refine Agg.chEnd ?_
              intro vs w33 hb _
              show Exit.then _ _ Exit.normal _ _
              simp only [List.reverse, List.reverseAux, Agg.fill, List.set_cons_succ, List.set_cons_zero]
              replace HB := Lib.hid (HB.out.trans (hb.mono HB.out.size))
              replace HBK := Lib.hid (HBK.out.keep hb)
              replace HBT := Lib.hid (HBT.out.keep hb)
              replace HO := Lib.hid (HO.out.keep hb)
              replace HU := Lib.hid (HU.out.keep hb)
              replace HPG := Lib.hid (HPG.out.keep hb)
              clear hb
              go_wp2_with fail
              go_ret2
              exact ⟨_, rfl, hnil _ _, HB.out⟩
          · rw [if_neg (fun h => h1 h.1)] at hrx
            subst hrx
            clear HRX2
            refine Agg.listR 27 (by kernel_rfl) ?_
            simp only [List.take_succ_cons, List.take_zero, List.drop_succ_cons, List.drop_zero]
            refine Agg.chMove rfl rfl rfl rfl ?_
            refine Agg.chNe true (bne_iff_ne.2 h1) rfl rfl rfl rfl rfl ?_
            refine Agg.chMove rfl rfl rfl rfl ?_
            refine Agg.chSkip rfl rfl ?_
            refine Agg.chSkip rfl rfl ?_
            refine Agg.chSkip rfl rfl ?_
            refine Agg.chSkip rfl rfl ?_
            refine Agg.chPick rfl rfl rfl rfl rfl ?_
            refine Agg.chMove rfl rfl rfl rfl ?_
            refine Agg.chSkip rfl rfl ?_
            refine Agg.chSkip rfl rfl ?_
            refine Agg.chSkip rfl rfl ?_
            refine Agg.chSkip rfl rfl ?_
            refine Agg.chSkip rfl rfl ?_
            refine Agg.chSkip rfl rfl ?_
            refine Agg.chPick rfl rfl rfl rfl rfl ?_
            refine Agg.chMove rfl rfl rfl rfl ?_
            refine Agg.chSkip rfl rfl ?_
            refine Agg.chSkip rfl rfl ?_
            refine Agg.chSkip rfl rfl ?_
            refine Agg.chSkip rfl rfl ?_
            refine Agg.chSkip rfl rfl ?_
            refine Agg.chSkip rfl rfl ?_
            refine Agg.chSkip rfl rfl ?_
            refine Agg.chSkip rfl rfl ?_
            refine Agg.chSkip rfl rfl ?_
            refine Agg.chPick rfl rfl rfl rfl rfl ?_
            refine Agg.chEnd ?_
            intro vs w34 hb _
            show Exit.then _ _ Exit.normal _ _
            simp only [List.reverse, List.reverseAux, Agg.fill, List.set_cons_succ, List.set_cons_zero]
            replace HB := Lib.hid (HB.out.trans (hb.mono HB.out.size))
            replace HBK := Lib.hid (HBK.out.keep hb)
            replace HBT := Lib.hid (HBT.out.keep hb)
            replace HO := Lib.hid (HO.out.keep hb)
            replace HU := Lib.hid (HU.out.keep hb)
            replace HPG := Lib.hid (HPG.out.keep hb)
            clear hb
            go_wp2_with fail
            go_ret2
            exact ⟨_, rfl, hnil _ _, HB.out⟩
      · have hrx := HRX.out
        rw [if_pos he1] at hrx
        subst hrx
        go_wp2_with (first
          | (refine Agg.allocRow 64 (blkC zeroB).toArray rfl rfl (by kernel_rfl) ?_; simp only [Act.put, List.setIfInBounds_toArray, List.set_cons_succ, List.set_cons_zero])
          | (refine Agg.gStoreNew 132 (blkC b1) rfl rfl rfl rfl rfl rfl (by decide +kernel) h132 zero132 hone ?_; simp only [Act.put]))
        go_ret2
        exact ⟨_, rfl, hnil _ _, bel_alloc HB.out _⟩
    · obtain rfl : k = A.length := by omega
      have hrk := HRK.out
      rw [List.drop_length, getsP] at hrk
      subst hrk
      go_wp2_with fail
      go_ret2
      exact ⟨_, rfl, HO.out, HB.out⟩
end Go.Proofs.Ytgfmpkcgkjpgnaa
