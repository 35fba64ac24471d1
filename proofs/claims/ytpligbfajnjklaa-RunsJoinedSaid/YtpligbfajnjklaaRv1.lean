/-
  THE WALK OF LAYER 7's STATEMENT RunsJoined.
-/
import Derived.Test.YtpligbfajnjklaaRuZ
namespace Ru
theorem sl_two {T : List Int} {a n : Nat} (h1 : a ≤ n) (h2 : n = T.length) : sl T 0 a ++ sl T a n = T := by
  subst h2
  unfold sl
  simp only [Int.toNat_natCast, Int.toNat_zero, List.drop_zero, List.take_length]
  exact List.take_append_drop a T
theorem rises_ofR {T : List Int} (h : risingB T = true) : risesB (ofR T) = true ∧ times (ofR T) = T ∧ many (ofR T) = T.length := by
  refine ⟨rises_of h, times_of T, ?_⟩
  have := (times_len (rises_of h)).1
  rw [times_of] at this; exact this.symm
end Ru
namespace Go.Proofs.Ytpligbfajnjklaa
open Go.ChangeShapes Go.WideShapes Go.ChangeAt Go.RowKit Agg Pg Ru

/-- what is cut at a place, and joined -/
structure JoinF (L : List Rn) (T A B : List Int) (a n : Nat) : Prop where
  p1 : placedP L 0 a = 0
  p2 : placedP L a n = 0
  ra : risingB A = true
  rb : risingB B = true
  jn : joinP (ofR A) (ofR B) = 0
  la : (A.length : Int) = a
  lb : (B.length : Int) = n - a
  tj : times (ofR A) ++ times (ofR B) = T
  of : ofR T = L
  pc : times (piecesR L a n) = B
  ps : ∀ r ∈ piecesR L a n, sized r = true
  pl : (piecesR L a n).length ≤ L.length
theorem mod_back {z m r : Int} (h : wrap64 ((IntKind.u64.wrap z).tmod m) = r) : IntKind.i64.wrap ((IntKind.u64.wrap z).tmod m) = r := by
  rw [← h, IntKind.wrap_i64]
  unfold wrap64
  rfl
theorem join_facts {L : List Rn} (h : risesB L = true) {a : Nat} (h1 : 1 ≤ a) (h2 : (a : Int) < many L) {n : Nat} (hn : many L = n) : JoinF L (times L) (sl (times L) 0 a) (sl (times L) a n) a n := by
  have hml := times_len h
  have hr := times_rising h
  have e1 : placedP L 0 a = 0 := by unfold placedP; rw [h, if_pos rfl, if_neg (by omega)]
  have e2 : placedP L a n = 0 := by unfold placedP; rw [h, if_pos rfl, if_neg (by omega)]
  have r1 := rising_sl hr (i := 0) (j := a) (by omega) (by omega) (by omega)
  have r2 := rising_sl hr (i := a) (j := n) (by omega) (by omega) (by omega)
  have t2 := sl_two (T := times L) (a := a) (n := n) (by omega) (by omega)
  have f := cut_facts e2
  refine ⟨e1, e2, r1.1, r2.1, ?_, by omega, by omega, by rw [times_of, times_of]; exact t2, of_times ((rises_iff L).1 h).2.2.1, f.2.2.2.2.2.2.1, f.2.2.2.2.2.2.2, pieces_len _ _ _⟩
  unfold joinP
  rw [if_pos ⟨rises_of r1.1, rises_of r2.1⟩, times_of, times_of]
  rw [t2, hr, if_pos rfl]
set_option maxHeartbeats 4000000 in
set_option maxRecDepth 100000 in
theorem joined_walk (l : List Rn) (v : Value) (z : Int) (w : World) (hz : I64 z) (hl : Rus w v l) (hw : ∀ r ∈ l, Rw r) :
    Calls Try.prog 10 #[v, .int .i64 z] w fun e w' => e = .returned (.bool true) ∧ Below w.heap.size w w' := by
  obtain ⟨x, cap, rfl, _⟩ := SlR.shape hl
  have HL := Lib.hid hl
  have HW := Lib.hid (cut300_rw hw)
  clear hl hw hz
  have HB := Lib.hid (Below.refl w.heap.size w)
  go_enter Try.func10, Try.ntmps10
  go_wp2_with fail
  refine (wakes_any w).mono ?_
  rintro e w1 ⟨rfl, hb⟩
  replace HB := Lib.hid (HB.out.trans (hb.mono HB.out.size))
  replace HL := Lib.hid (HL.out.keep hb)
  clear hb
  go_wp2_with fail
  refine (own_any l _ w1 HL.out).mono ?_
  rintro e w2 ⟨u, rfl, hu, hb⟩
  replace HB := Lib.hid (HB.out.trans (hb.mono HB.out.size))
  replace HL := Lib.hid (HL.out.keep hb)
  clear hb
  have HU : Hid (Rus w2 u (cut300 l)) := Lib.hid (own_rus hu)
  clear hu HL
  generalize cut300 l = L at *
  obtain ⟨ux, uc, rfl, _, _⟩ := SlR.shape HU.out
  have HCO := Lib.hid (fun W hW => count_any L (.slice ux L.length uc) W hW HW.out)
  have HCH := Lib.hid (fun W hW => check_any L (.slice ux L.length uc) W hW HW.out)
  obtain ⟨rb, hrb⟩ : ∃ b, risesB L = b := ⟨_, rfl⟩
  have HRB := Lib.hid hrb
  rw [hrb] at HCO HCH
  clear hrb
  cases rb
  · go_wp2_with fail
    refine (HCO.out w2 HU.out).mono ?_
    rintro e w3 ⟨rfl, hb⟩
    replace HB := Lib.hid (HB.out.trans (hb.mono HB.out.size))
    replace HU := Lib.hid (HU.out.keep hb)
    clear hb
    go_wp2_with fail
    refine (HCH.out w3 HU.out).mono ?_
    rintro e w4 ⟨rfl, hb⟩
    replace HB := Lib.hid (HB.out.trans (hb.mono HB.out.size))
    replace HU := Lib.hid (HU.out.keep hb)
    clear hb
    go_wp2_with fail
    go_ret
    exact ⟨rfl, HB.out⟩
  · have hml := times_len HRB.out
    have hl1 := ((rising_iff _).1 (times_rising HRB.out)).1
    obtain ⟨n, hn⟩ : ∃ n : Nat, many L = n := ⟨(times L).length, hml.1.symm⟩
    rw [hn] at HCO hml
    have HN := Lib.hid hn
    have hn1 : 1 ≤ n := by omega
    have hn2 : n ≤ 256 := by omega
    clear hn hml hl1
    go_wp2_with fail
    refine (HCO.out w2 HU.out).mono ?_
    rintro e w5 ⟨rfl, hb⟩
    replace HB := Lib.hid (HB.out.trans (hb.mono HB.out.size))
    replace HU := Lib.hid (HU.out.keep hb)
    clear hb
    by_cases h2 : (n : Int) < 2
    · obtain rfl : n = 1 := by omega
      go_wp2_with fail
      refine (HCH.out w5 HU.out).mono ?_
      rintro e w6 ⟨rfl, hb⟩
      replace HB := Lib.hid (HB.out.trans (hb.mono HB.out.size))
      replace HU := Lib.hid (HU.out.keep hb)
      clear hb
      go_wp2_with fail
      go_ret
      exact ⟨rfl, HB.out⟩
    · have h2b : ¬ (n : Int) < 2 := h2
      go_upto_region 7 with (fail)
      go_cut [1] from 34 to 41 (fun s wx => (∃ a : Nat, s = .int .i64 (a : Int) ∧ 1 ≤ a ∧ a < n) ∧ Below w5.heap.size w5 wx)
      case first =>
        obtain ⟨r, hr, hr2⟩ := mod_u64 z ((n : Int) - 1) (by omega) (by omega)
        have HRR := Lib.hid hr
        have hun : IntKind.u64.wrap ((n : Int) - 1) = (n : Int) - 1 := by simp [IntKind.wrap, IntKind.bits, IntKind.signed]; omega
        clear hr
        refine Agg.listR 8 (by kernel_rfl) ?_
        simp only [List.take_succ_cons, List.take_zero, List.drop_succ_cons, List.drop_zero]
        refine Agg.chMove rfl rfl rfl rfl ?_
        refine Agg.chInt _ rfl (by kernel_rfl) Try.underlying46 rfl rfl rfl rfl ?_
        refine Agg.chMove rfl rfl rfl rfl ?_
        refine Agg.chAr64 rfl rfl rfl rfl (by omega) (by omega) rfl rfl ?_
        refine Agg.chInt ((n : Int) - 1) hun (by kernel_rfl) Try.underlying46 rfl rfl rfl rfl ?_
        refine Agg.chRem _ rfl rfl rfl (by omega) rfl rfl rfl ?_
        refine Agg.chInt (r : Int) (by exact mod_back HRR.out) (by kernel_rfl) Try.underlying3 rfl rfl rfl rfl ?_
        refine Agg.chAr64 rfl rfl rfl rfl (by omega) (by omega) rfl rfl ?_
        refine Agg.chEnd ?_
        intro vs w7 hb hf
        simp only [List.reverse, List.reverseAux, Agg.Facts] at hf
        obtain _ := hf
        simp only [List.reverse, List.reverseAux, Agg.fill, List.set_cons_succ, List.set_cons_zero]
        go_wp2_with fail
        go_meet
        exact ⟨⟨r + 1, by congr 1; omega, by omega, by omega⟩, hb⟩
      case rest =>
        obtain ⟨⟨a, rfl, ha1, ha2⟩, hwx⟩ := hcut
        have hb := hwx
        replace HB := Lib.hid (HB.out.trans (hb.mono HB.out.size))
        replace HU := Lib.hid (HU.out.keep hb)
        clear hb
        clear hwx
        have JF := join_facts HRB.out ha1 (by rw [HN.out]; omega) HN.out
        have HTR := Lib.hid (times_rising HRB.out)
        obtain ⟨A, hA⟩ : ∃ A, sl (times L) 0 a = A := ⟨_, rfl⟩
        obtain ⟨B, hB⟩ : ∃ B, sl (times L) a n = B := ⟨_, rfl⟩
        have HA := Lib.hid hA
        have HBE := Lib.hid hB
        rw [hA, hB] at JF
        have HLW := Lib.hid (rises_ends HRB.out).1
        obtain ⟨T, hT⟩ : ∃ T, times L = T := ⟨_, rfl⟩
        have HTE := Lib.hid hT
        rw [hT] at JF HTR HA HBE
        have HJ := Lib.hid JF
        have hla := JF.la
        have hlb := JF.lb
        have hra := rises_ofR JF.ra
        have hrb := rises_ofR JF.rb
        have hwa := ofR_rw JF.ra
        have hwb := ofR_rw JF.rb
        clear hA hB hT JF
        obtain ⟨RA, hRA⟩ : ∃ R, ofR A = R := ⟨_, rfl⟩
        obtain ⟨RB, hRB⟩ : ∃ R, ofR B = R := ⟨_, rfl⟩
        rw [hRA] at hra hwa
        rw [hRB] at hrb hwb
        rw [hla] at hra
        rw [hlb] at hrb
        have HRA := Lib.hid hra
        have HRBB := Lib.hid hrb
        have HWA := Lib.hid hwa
        have HWB := Lib.hid hwb
        have HQA := Lib.hid hRA
        have HQB := Lib.hid hRB
        clear hra hrb hwa hwb hRA hRB
        have HC1 := Lib.hid (fun W hW => cut_any L (.slice ux L.length uc) 0 a W hW HW.out 0 HJ.out.p1)
        have HC2 := Lib.hid (fun W hW => cut_any L (.slice ux L.length uc) a n W hW HW.out 0 HJ.out.p2)
        rw [HTE.out, HA.out] at HC1
        rw [HTE.out, HBE.out] at HC2
        go_wp2_with fail
        refine (HC1.out wc HU.out).mono ?_
        rintro e w11 ⟨c1, rfl, hc1, hb⟩
        replace HB := Lib.hid (HB.out.trans (hb.mono HB.out.size))
        replace HU := Lib.hid (HU.out.keep hb)
        clear hb
        have ho1 := own_rus (OfR.yes.1 hc1)
        rw [HQA.out] at ho1
        have HO1 := Lib.hid ho1
        obtain ⟨c1x, c1c, rfl, _, _⟩ := SlR.shape HO1.out
        clear hc1 ho1 HC1
        go_wp2_with fail
        refine (HC2.out w11 HU.out).mono ?_
        rintro e w12 ⟨c2, rfl, hc2, hb⟩
        replace HB := Lib.hid (HB.out.trans (hb.mono HB.out.size))
        replace HU := Lib.hid (HU.out.keep hb)
        replace HO1 := Lib.hid (HO1.out.keep hb)
        clear hb
        have ho2 := own_rus (OfR.yes.1 hc2)
        rw [HQB.out] at ho2
        have HO2 := Lib.hid ho2
        obtain ⟨c2x, c2c, rfl, _, _⟩ := SlR.shape HO2.out
        clear hc2 ho2 HC2
        have hjn := HJ.out.jn
        rw [HQA.out, HQB.out] at hjn
        have HJN := Lib.hid hjn
        have htj := HJ.out.tj
        rw [HQA.out, HQB.out] at htj
        have HTJ := Lib.hid htj
        clear hjn htj
        go_wp2_with fail
        refine (join_any RA RB _ _ w12 HO1.out HWA.out HO2.out HWB.out 0 HJN.out).mono ?_
        rintro e w13 ⟨c3, rfl, hc3, hb⟩
        replace HB := Lib.hid (HB.out.trans (hb.mono HB.out.size))
        replace HU := Lib.hid (HU.out.keep hb)
        replace HO1 := Lib.hid (HO1.out.keep hb)
        replace HO2 := Lib.hid (HO2.out.keep hb)
        clear hb
        have ho3 := own_rus (OfR.yes.1 hc3)
        rw [HTJ.out, HJ.out.of] at ho3
        have HO3 := Lib.hid ho3
        obtain ⟨c3x, c3c, rfl, _, _⟩ := SlR.shape HO3.out
        clear hc3 ho3
        go_wp2_with fail
        refine (equalR_any L L _ _ w13 HO3.out HU.out HW.out HW.out true (by simp)).mono ?_
        rintro e w14 ⟨rfl, hb⟩
        replace HB := Lib.hid (HB.out.trans (hb.mono HB.out.size))
        replace HU := Lib.hid (HU.out.keep hb)
        replace HO1 := Lib.hid (HO1.out.keep hb)
        replace HO2 := Lib.hid (HO2.out.keep hb)
        replace HO3 := Lib.hid (HO3.out.keep hb)
        clear hb
        clear HO3
        have HK1 := Lib.hid (fun W hW => count_any RA (.slice c1x RA.length c1c) W hW HWA.out)
        have HK2 := Lib.hid (fun W hW => count_any RB (.slice c2x RB.length c2c) W hW HWB.out)
        rw [HRA.out.1, HRA.out.2.2] at HK1
        rw [HRBB.out.1, HRBB.out.2.2] at HK2
        go_wp2_with fail
        refine (HK1.out w14 HO1.out).mono ?_
        rintro e w15 ⟨rfl, hb⟩
        replace HB := Lib.hid (HB.out.trans (hb.mono HB.out.size))
        replace HU := Lib.hid (HU.out.keep hb)
        replace HO1 := Lib.hid (HO1.out.keep hb)
        replace HO2 := Lib.hid (HO2.out.keep hb)
        clear hb
        go_wp2_with fail
        refine (HK2.out w15 HO2.out).mono ?_
        rintro e w16 ⟨rfl, hb⟩
        replace HB := Lib.hid (HB.out.trans (hb.mono HB.out.size))
        replace HU := Lib.hid (HU.out.keep hb)
        replace HO1 := Lib.hid (HO1.out.keep hb)
        replace HO2 := Lib.hid (HO2.out.keep hb)
        clear hb
        have hnn : ((n : Int) - a != n - a) = false := by simp
        have haa : ((a : Int) != a) = false := by simp
        clear HK1 HK2 HO1
        have HPP := Lib.hid (fun W hW => piecesX_any L (.slice ux L.length uc) a n W hW HW.out 0 HJ.out.p2)
        have HTT := Lib.hid (fun W hW => times_any RB (.slice c2x RB.length c2c) W hW HWB.out)
        rw [HRBB.out.1, HRBB.out.2.1] at HTT
        have hps := HJ.out.ps
        have hpc := HJ.out.pc
        have hpl := HJ.out.pl
        obtain ⟨P, hP⟩ : ∃ P, piecesR L a n = P := ⟨_, rfl⟩
        rw [hP] at HPP hps hpc hpl
        have HPS := Lib.hid hps
        have HPC := Lib.hid hpc
        clear hP hps hpc
        have hL256 := ((rises_iff L).1 HRB.out).2.1
        have hB256 := ((rising_iff B).1 HJ.out.rb).2.1
        have hpl2 : P.length ≤ 256 := by omega
        have HBI : Hid (∀ z ∈ B, I64 z) := Lib.hid (fun z hz => by have := ((rising_iff B).1 HJ.out.rb).2.2.1 z hz; unfold maxT at this; unfold I64; omega)
        clear HJ HJN HTJ HRA HRBB HWA HWB HQA HQB HA HBE HTE HTR HLW HN hpl
        go_wp2_with fail
        refine (HPP.out w16 HU.out).mono ?_
        rintro e w17 ⟨c4, rfl, hc4, hb⟩
        replace HB := Lib.hid (HB.out.trans (hb.mono HB.out.size))
        replace HU := Lib.hid (HU.out.keep hb)
        replace HO2 := Lib.hid (HO2.out.keep hb)
        clear hb
        have HP4 := Lib.hid (PcR.yes.1 hc4)
        obtain ⟨px, pc, rfl, _, _⟩ := SlR.shape HP4.out
        clear hc4
        go_wp2_with fail
        refine (HTT.out w17 HO2.out).mono ?_
        rintro e w30 ⟨tv, rfl, h1, h2⟩
        rw [if_pos trivial] at h1
        have HTB := Lib.hid (own_tms h1)
        obtain ⟨tbx, tbc, rfl, _, _⟩ := SlR.shape HTB.out
        clear h1
        have hb := h2
        replace HB := Lib.hid (HB.out.trans (hb.mono HB.out.size))
        replace HP4 := Lib.hid (HP4.out.keep hb)
        clear hb
        clear h2 HTT HPP HO2 HU
        have HP0 := HP4
        have HB0 := HB
        go_wp2_with fail
        go_loopw [15, 111] (fun s15 ix wr => ∃ k : Nat, k ≤ P.length ∧ ix = .int .i64 k ∧ From w30 wr ∧ wr.ownsRow w30.heap.size 2 1 s15 (times (P.take k)).length (tC (times (P.take k)))) (fun _ ix _ => P.length - (intOf ix).toNat)
        case atStart => exact ⟨0, by omega, rfl, Below.refl _ _, by simpa [times, tC] using World.ownsRow_nil _ _ _ _⟩
        case round =>
          obtain ⟨k, hk, rfl, hfr, ho⟩ := hrel
          have HFR := Lib.hid hfr
          have HO := Lib.hid ho
          have HP := Lib.hid (SlR.keep HP0.out hfr)
          obtain ⟨qx, qc, rfl, _, _⟩ := (ownSl ho).shape
          clear hfr ho
          obtain ⟨wA, hwA⟩ : ∃ x, x = wr := ⟨_, rfl⟩
          subst hwA
          by_cases hlt : k < P.length
          · have hsz := HPS.out _ (List.getElem_mem hlt)
            have htn := times_snoc P k hlt
            have hmx : (times (P.take k)).length ≤ B.length := by
              rw [← HPC.out, times_take P k hlt, List.length_append]; omega
            have hmx2 : (times (P.take k)).length + (ts P[k]).length ≤ B.length := by
              rw [← HPC.out, times_take P k hlt, List.length_append, List.length_append]; omega
            obtain ⟨b, o, cap', hve, _, _, _, _⟩ := SlR.pos HP.out (by decide) (by omega)
            simp only [Value.slice.injEq, true_and] at hve
            obtain ⟨rfl, rfl⟩ := hve
            have hrow := flat_at ruC 3 (by decide) HP.out (fun b hb => rfl) hlt
            obtain ⟨r, hr⟩ : ∃ r, P[k] = r := ⟨_, rfl⟩
            rw [hr] at hsz htn hrow hmx2
            clear hr
            obtain ⟨f, s, c⟩ := r
            have HSI := Lib.hid hsz
            have HTN := Lib.hid htn
            have hs6 := (sized_iff _).1 hsz
            rw [ts_length] at hmx2
            simp only at hs6 hmx2
            obtain ⟨z1, z2, z3, z4, z5, z6⟩ := hs6
            have hc256 : min c 256 = c := by omega
            clear hsz htn
            generalize times (P.take k) = D at *
            go_upto_region 21 with (first
              | (refine Agg.gLoad 3 [.int .i64 f, .int .i64 s, .int .i64 c] rfl rfl rfl (by decide +kernel) rfl hrow ?_; simp only [Act.put, List.setIfInBounds_toArray, List.set_cons_succ, List.set_cons_zero])
              | (refine Agg.allocRow 31 #[.int .i64 0, .int .i64 0, .int .i64 0] rfl rfl (by kernel_rfl) ?_; simp only [Act.put, List.setIfInBounds_toArray, List.set_cons_succ, List.set_cons_zero])
              | (refine Agg.gStoreNew 3 [.int .i64 f, .int .i64 s, .int .i64 c] rfl rfl rfl rfl rfl rfl (by decide +kernel) rfl rfl rfl ?_; simp only [Act.put]))
            have hbA : Below wA.heap.size wA (wA.alloc (.cells #[.int .i64 f, .int .i64 s, .int .i64 c] 31)) := (Below.refl _ _).alloc (Nat.le_refl _) _
            have HBX := Lib.hid (Blk.new wA 31 #[.int .i64 f, .int .i64 s, .int .i64 c])
            have HFB := Lib.hid (HFR.out.keep hbA)
            have HOB := Lib.hid (own_keep HO.out hbA)
            refine Agg.wp_at fun wB hwB => ?_
            rw [← hwB.out] at HBX HFB HOB
            generalize wA.heap.size = gp at *
            clear hrow hwB hbA HO HFR HP
            have x2 := HBX.out.cell 2
            simp only [List.getElem?_cons_succ, List.getElem?_cons_zero] at x2
            go_wp2_with (refine Agg.min2 _ _ _ c rfl rfl rfl rfl hc256 ?_; simp only [Act.put, List.setIfInBounds_toArray, List.set_cons_succ, List.set_cons_zero])
            clear x2
            go_loopw [15, 118] (fun s15 ix wr => ∃ n : Nat, (n : Int) ≤ c ∧ ix = .int .i64 n ∧ From w30 wr ∧ wr.ownsRow w30.heap.size 2 1 s15 (D ++ ts (f, s, (n : Int))).length (tC (D ++ ts (f, s, (n : Int)))) ∧ Blk wr gp 31 [.int .i64 f, .int .i64 s, .int .i64 c]) (fun _ ix _ => c.toNat - (intOf ix).toNat)
            case atStart => exact ⟨0, by omega, rfl, HFB.out, by rw [show ts (f, s, ((0 : Nat) : Int)) = [] by simp [ts], List.append_nil]; exact HOB.out, HBX.out⟩
            case round =>
              obtain ⟨n2, hn, rfl, hfr, ho, hx⟩ := hrel
              have HFR := Lib.hid hfr
              have HO := Lib.hid ho
              have HX := Lib.hid hx
              obtain ⟨qx, qc, rfl, _, _⟩ := (ownSl ho).shape
              clear hfr ho hx HBX HFB HOB
              obtain ⟨wD, hwD⟩ : ∃ x, x = wr := ⟨_, rfl⟩
              subst hwD
              by_cases hnc : (n2 : Int) < c
              · obtain ⟨y1, y2, y3, y4⟩ := sized_here HSI.out hnc
                have hsc : D ++ ts (f, s, ((n2 + 1 : Nat) : Int)) = (D ++ ts (f, s, (n2 : Int))) ++ [f + s * (n2 : Int)] := by rw [List.append_assoc]; congr 1; rw [Int.mul_comm]; exact ts_succ f s n2
                have HSC := Lib.hid hsc
                have hEl : (D ++ ts (f, s, (n2 : Int))).length ≤ 256 := by rw [List.length_append, ts_length]; simp only; omega
                clear hsc
                obtain ⟨E, hE⟩ : ∃ E, D ++ ts (f, s, (n2 : Int)) = E := ⟨_, rfl⟩
                rw [hE] at HSC HO hEl ⊢
                clear hE
                have x0 := HX.out.cell 0
                have x1 := HX.out.cell 1
                simp only [List.getElem?_cons_succ, List.getElem?_cons_zero] at x0 x1
                have hal := ((Below.refl _ wD).alloc (Nat.le_refl _) (.cells #[.int .i64 (f + s * (n2 : Int))] 2))
                have hob := own_keep HO.out hal
                have hsl := sl_new wD #[.int .i64 (f + s * (n2 : Int))] 2 1 1 rfl (by decide)
                have hfa := HFR.out.keep hal
                have hfs : w30.heap.size ≤ wD.heap.size := Below.size HFR.out
                have hxa := HX.out.keep hal
                have HXA := Lib.hid (And.intro hxa (own_apart hob hxa (by decide)))
                have HFA := Lib.hid hfa
                clear hal hfa hxa
                go_wp2_with (refine Agg.append ti22 _ _ rfl rfl w30.heap.size (v := .slice qx E.length qc) rfl hob rfl hsl (by simp [Value.oneCell']) (by unfold maxLen; omega) (by omega) (by simp only [World.size_alloc]; omega) ?_; intro v2 w3 ho3 hg3 _; simp only [Act.put, List.setIfInBounds_toArray, List.set_cons_succ, List.set_cons_zero])
                refine ⟨⟨n2 + 1, by omega, by go_num, ?_, ?_, blk_row HXA.out.1 hg3 HXA.out.2⟩, by simp [intOf]; omega⟩
                · exact Below.trans HFA.out (grown_below hg3 (Below.size HFA.out) (own_block hob))
                · rw [HSC.out, List.length_append, show tC (E ++ [f + s * (n2 : Int)]) = tC E ++ [Value.int .i64 (f + s * (n2 : Int))] from List.map_append]
                  exact ho3
              · have hcn : (n2 : Int) = c := by omega
                rw [hcn] at HO
                rw [← HTN.out] at HO
                have HO4 := Lib.hid HO.out
                rw [hcn, ← HTN.out] at *
                go_wp2_with fail
                exact ⟨⟨k + 1, by omega, by go_num, HFR.out, HO4.out⟩, by simp [intOf]; omega⟩
          · obtain rfl : k = P.length := by omega
            rw [List.take_length, HPC.out] at HO
            have HTQ := Lib.hid (own_tms HO.out)
            rw [List.take_length, HPC.out] at *
            have HT5 := Lib.hid (SlR.keep HTB.out HFR.out)
            have HB5 := Lib.hid (HB0.out.trans (Below.mono HFR.out HB0.out.size))
            go_wp2_with fail
            refine (eqT_any B B _ _ wA HTQ.out HT5.out HBI.out HBI.out true (by simp)).mono ?_
            rintro e w40 ⟨rfl, hb40⟩
            have HB6 := Lib.hid (HB5.out.trans (hb40.mono HB5.out.size))
            clear hb40
            go_wp2_with fail
            go_ret
            exact ⟨rfl, HB6.out⟩
theorem RunsJoined_walk (v : Value) (f : Nat) (z : Int) (w : World) (h : Agg.Good Try.prog w f 24 [v]) (hz : (Lit.int .i64 z).wf = true) :
    Calls Try.prog 10 #[v, .int .i64 z] w fun e w' => e = .returned (.bool true) ∧ Below w.heap.size w w' := by
  obtain ⟨l, h3, h4⟩ := good_runs h
  have cv : ∀ {z : Int}, (Lit.int .i64 z).wf = true → I64 z := fun {z} hz => by
    simp [Lit.wf, IntKind.min, IntKind.max, IntKind.signed, IntKind.bits] at hz
    unfold I64; omega
  exact joined_walk l v z w (cv hz) h3 h4
end Go.Proofs.Ytpligbfajnjklaa
