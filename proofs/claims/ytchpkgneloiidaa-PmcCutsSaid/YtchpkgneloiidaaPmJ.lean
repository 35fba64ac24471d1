/-
  THE WALK OF LAYER 8's STATEMENT PmcCuts.
-/
import Derived.Test.YtchpkgneloiidaaPmI
namespace Go.Proofs.Ytchpkgneloiidaa
open Go.ChangeShapes Go.WideShapes Go.ChangeAt Go.RowKit Agg Pg Pm
attribute [local go_sem] Oper.semAt_some

theorem longP_no {l : List Bd} (h : checkB l = false) : longP l = (0, 180) := by unfold longP; rw [h]; rfl
theorem longP_yes {l : List Bd} (h : checkB l = true) : longP l = (((longest l).2 : Int), 0) := by unfold longP; rw [h]; rfl
theorem tms_nC {w : World} {u : Value} {C : List Nat} (h : SlR w u 1 C.length (nC C)) : Tms w u (C.map fun n : Nat => (n : Int)) := by
  rw [nC_tC] at h
  show SlR _ _ _ _ _
  rw [List.length_map]; exact h
theorem cut_mem : ∀ (m : Nat) (l : List Bd), l.length ≤ m → Okb l → ∀ n ∈ cut l, n ≤ l.length
  | 0, l, h, _, n, hn => by
    have : l = [] := List.eq_nil_of_length_eq_zero (by omega)
    subst this; cases hn
  | m + 1, l, h, hok, n, hn => by
    by_cases h0 : l = []
    · subst h0; cases hn
    · rw [cut_step h0 hok] at hn
      have h1 := longest_pos h0 hok
      have h2 := longest_le hok
      rcases List.mem_cons.1 hn with rfl | hn
      · exact h2
      · have := cut_mem m (l.drop (longest l).2) (by rw [List.length_drop]; omega) (hok.drop _) n hn
        rw [List.length_drop] at this; omega
set_option maxHeartbeats 4000000 in
set_option maxRecDepth 100000 in
theorem cuts_walk (l : List Bd) (v : Value) (w : World) (hl : Bds w v l) (hrw : ∀ r ∈ l, Rw r) :
    Calls Try.prog 4 #[v] w fun e w' => e = .returned (.bool true) ∧ Below w.heap.size w w' := by
  obtain ⟨x, cap, rfl, _⟩ := SlR.shape hl
  have HL := Lib.hid hl
  have HRW := Lib.hid hrw
  clear hl hrw
  have HB := Lib.hid (Below.refl w.heap.size w)
  go_enter Try.func4, Try.ntmps4
  go_wp2_with fail
  refine (wakes_any w).mono ?_
  rintro e w1 ⟨rfl, hb⟩
  replace HB := Lib.hid (HB.out.trans (hb.mono HB.out.size))
  replace HL := Lib.hid (HL.out.keep hb)
  clear hb
  go_wp2_with fail
  refine (few_any l _ w1 HL.out).mono ?_
  rintro e w2 ⟨u, rfl, hu, hb⟩
  replace HB := Lib.hid (HB.out.trans (hb.mono HB.out.size))
  replace HL := Lib.hid (HL.out.keep hb)
  clear hb
  have HU0 : Hid (Bds w2 u (few257 l)) := Lib.hid (own_bds hu)
  have hfl := few_le l
  have HRL : Hid (∀ r ∈ few257 l, Rw r) := Lib.hid fun r hr => HRW.out r (List.mem_of_mem_take hr)
  have HFE : Hid (∀ (w : World), Bds w (.slice x l.length cap) l → Calls Try.prog 11 #[.slice x l.length cap] w fun e w' => ∃ u, e = .returned u ∧ w'.ownsRow w.heap.size 36 3 u (few257 l).length ((few257 l).flatMap bdC) ∧ Below w.heap.size w w') := Lib.hid fun w h => few_any l _ w h
  clear hu HRW
  generalize few257 l = L0 at *
  obtain ⟨ux, uc, rfl, huc, _⟩ := SlR.shape HU0.out
  obtain ⟨m, hmd⟩ : ∃ m, m = min L0.length 80 := ⟨_, rfl⟩
  have hm1 : m ≤ L0.length := by omega
  have hm2 : m ≤ 80 := by omega
  have hme : min (L0.length : Int) 80 = (m : Int) := by omega
  have hmuc : (m : Int) ≤ uc := by omega
  have hs0 := bds_take HU0.out m hm1
  have hle : (L0.take m).length = m := by rw [List.length_take]; omega
  have HU := Lib.hid hs0
  clear hs0 hmd HU0
  go_wp2_with (refine Agg.min2 _ _ _ (m : Int) rfl rfl rfl rfl hme ?_; simp only [Act.put, List.setIfInBounds_toArray, List.set_cons_succ, List.set_cons_zero])
  obtain ⟨L, hL⟩ : ∃ L, L0.take m = L := ⟨_, rfl⟩
  have HLT := Lib.hid hL
  have HRW : Hid (∀ r ∈ L, Rw r) := Lib.hid fun r hr => HRL.out r (List.mem_of_mem_take (hL ▸ hr))
  rw [hL] at HU hle
  subst hle
  clear hme hL HRL
  obtain ⟨q, hq⟩ : ∃ q, checkB L = q := ⟨_, rfl⟩
  have HQ := Lib.hid hq
  clear hq
  cases q
  · refine (longestX_any L _ w2 HU.out 0 180 (longP_no HQ.out)).mono ?_
    rintro e w3 ⟨rfl, hb⟩
    replace HB := Lib.hid (HB.out.trans (hb.mono HB.out.size))
    replace HL := Lib.hid (HL.out.keep hb)
    replace HU := Lib.hid (HU.out.keep hb)
    clear hb
    go_wp2_with fail
    refine (cut_any L _ w3 HU.out false HQ.out).mono ?_
    rintro e w4 ⟨c1, rfl, hc1, hb⟩
    replace HB := Lib.hid (HB.out.trans (hb.mono HB.out.size))
    replace HL := Lib.hid (HL.out.keep hb)
    replace HU := Lib.hid (HU.out.keep hb)
    clear hb
    obtain rfl := CutV.no.1 hc1
    clear hc1
    go_wp2_with fail
    refine (right_any L _ w4 HU.out false HQ.out).mono ?_
    rintro e w5 ⟨rfl, hb⟩
    replace HB := Lib.hid (HB.out.trans (hb.mono HB.out.size))
    replace HL := Lib.hid (HL.out.keep hb)
    replace HU := Lib.hid (HU.out.keep hb)
    clear hb
    go_wp2_with fail
    go_ret
    exact ⟨rfl, HB.out⟩
  · have hck := check_len HQ.out
    have hL1 := hck.1
    have HOK := Lib.hid hck.2.2.2
    clear hck
    have hcl := cut_len HOK.out
    have HMEM := Lib.hid (cut_mem L.length L (Nat.le_refl _) HOK.out)
    have hnl := longest_le HOK.out
    have hlp := longP_yes HQ.out
    obtain ⟨n, hn⟩ : ∃ n, (longest L).2 = n := ⟨_, rfl⟩
    rw [hn] at hlp hnl
    have HN := Lib.hid hn
    have HLP := Lib.hid hlp
    clear hn hlp
    refine (longestX_any L _ w2 HU.out n 0 HLP.out).mono ?_
    rintro e w6 ⟨rfl, hb⟩
    replace HB := Lib.hid (HB.out.trans (hb.mono HB.out.size))
    replace HL := Lib.hid (HL.out.keep hb)
    replace HU := Lib.hid (HU.out.keep hb)
    clear hb
    go_wp2_with fail
    refine (cut_any L _ w6 HU.out true HQ.out).mono ?_
    rintro e w7 ⟨c1, rfl, hc1, hb⟩
    replace HB := Lib.hid (HB.out.trans (hb.mono HB.out.size))
    replace HL := Lib.hid (HL.out.keep hb)
    replace HU := Lib.hid (HU.out.keep hb)
    clear hb
    have HT := Lib.hid (tms_nC (ownSl (CutV.yes.1 hc1)))
    obtain ⟨c1x, c1c, rfl, _, _⟩ := (ownSl (CutV.yes.1 hc1)).shape
    clear hc1
    obtain ⟨C, hC⟩ : ∃ C, cut L = C := ⟨_, rfl⟩
    have HC := Lib.hid hC
    rw [hC] at HT hcl HMEM ⊢
    clear hC
    go_wp2_with fail
    refine (right_any L _ w7 HU.out true HQ.out).mono ?_
    rintro e w8 ⟨rfl, hb⟩
    replace HB := Lib.hid (HB.out.trans (hb.mono HB.out.size))
    replace HL := Lib.hid (HL.out.keep hb)
    replace HU := Lib.hid (HU.out.keep hb)
    replace HT := Lib.hid (HT.out.keep hb)
    clear hb
    go_wp2_with fail
    refine (rlong_any L _ w8 HU.out HOK.out (by omega) n HN.out).mono ?_
    rintro e w9 ⟨rfl, hb⟩
    replace HB := Lib.hid (HB.out.trans (hb.mono HB.out.size))
    replace HL := Lib.hid (HL.out.keep hb)
    replace HU := Lib.hid (HU.out.keep hb)
    replace HT := Lib.hid (HT.out.keep hb)
    clear hb
    go_wp2_with fail
    refine (rcut_any L _ w9 HU.out HOK.out (by omega) C HC.out).mono ?_
    rintro e w10 ⟨c2, rfl, hc2, hb⟩
    replace HB := Lib.hid (HB.out.trans (hb.mono HB.out.size))
    replace HL := Lib.hid (HL.out.keep hb)
    replace HU := Lib.hid (HU.out.keep hb)
    replace HT := Lib.hid (HT.out.keep hb)
    clear hb
    have HT2 := Lib.hid (tms_nC (ownSl hc2))
    obtain ⟨c2x, c2c, rfl, _, _⟩ := (ownSl hc2).shape
    clear hc2
    have HCI : Hid (∀ b ∈ C.map fun n : Nat => (n : Int), I64 b) := Lib.hid fun b hb => by
      obtain ⟨n, h1, rfl⟩ := List.mem_map.1 hb
      have := HMEM.out n h1
      unfold I64; omega
    go_wp2_with fail
    refine (eqI_any (C.map fun n : Nat => (n : Int)) (C.map fun n : Nat => (n : Int)) _ _ w10 HT.out HT2.out HCI.out HCI.out true (by simp)).mono ?_
    rintro e w11 ⟨rfl, hb⟩
    replace HB := Lib.hid (HB.out.trans (hb.mono HB.out.size))
    replace HL := Lib.hid (HL.out.keep hb)
    replace HU := Lib.hid (HU.out.keep hb)
    replace HT := Lib.hid (HT.out.keep hb)
    replace HT2 := Lib.hid (HT2.out.keep hb)
    clear hb
    go_wp2_with fail
    refine (HFE.out w11 HL.out).mono ?_
    rintro e w12 ⟨u2, rfl, hu2, hb⟩
    replace HB := Lib.hid (HB.out.trans (hb.mono HB.out.size))
    replace HL := Lib.hid (HL.out.keep hb)
    replace HU := Lib.hid (HU.out.keep hb)
    replace HT := Lib.hid (HT.out.keep hb)
    replace HT2 := Lib.hid (HT2.out.keep hb)
    clear hb
    have HU2 : Hid (Bds w12 u2 L0) := Lib.hid (own_bds hu2)
    clear hu2
    obtain ⟨vx, vc, rfl, hvc, _⟩ := SlR.shape HU2.out
    have HU3 := Lib.hid (bds_take HU2.out L.length hm1)
    rw [HLT.out] at HU3
    have hlv : (L.length : Int) ≤ vc := by omega
    go_wp2_with fail
    refine (equalBd_any L L _ _ w12 HU.out HU3.out HRW.out HRW.out true (by simp)).mono ?_
    rintro e w13 ⟨rfl, hb⟩
    replace HB := Lib.hid (HB.out.trans (hb.mono HB.out.size))
    replace HU := Lib.hid (HU.out.keep hb)
    replace HU3 := Lib.hid (HU3.out.keep hb)
    clear hb
    go_wp2_with fail
    go_ret
    exact ⟨rfl, HB.out⟩
theorem PmcCuts_walk (v : Value) (f : Nat) (w : World) (h : Agg.Good Try.prog w f 22 [v]) :
    Calls Try.prog 4 #[v] w fun e w' => e = .returned (.bool true) ∧ Below w.heap.size w w' := by
  obtain ⟨l, h3, h4⟩ := good_bands h
  exact cuts_walk l v w h3 h4
end Go.Proofs.Ytchpkgneloiidaa
