/-
  THE WALK OF LAYER 23's STATEMENT RootTurns.
-/
import Derived.Test.YtjnnnnolikbjcaaRtL
import Derived.Test.YtjnnnnolikbjcaaRtM
namespace Go.Proofs.Ytjnnnnolikbjcaa
open Go.ChangeShapes Go.WideShapes Go.ChangeAt Go.RowKit Agg Pg Dv
attribute [local go_sem] Oper.semAt_some

set_option maxHeartbeats 8000000 in
set_option maxRecDepth 100000 in
theorem turns_walk (old : List (List Sec)) (r1 r2 : Rt) (z0 m0 : Int) (ov v1 v2 : Value) (w : World) (ho : ∀ b ∈ old, BOk b) (hol : old.length ≤ maxLen) (hv : Blks w ov old) (hR1 : RtR w v1 r1) (hG1 : RtG r1) (hR2 : RtR w v2 r2) (hG2 : RtG r2) :
    Calls Try.prog 3 #[ov, v1, v2, .int .i64 z0, .int .i64 m0] w fun e w' => e = .returned (.bool true) ∧ Below w.heap.size w w' := by
  obtain ⟨ox, oc, rfl, hoc, hom⟩ := SlR.shape hv
  replace hol : old.length ≤ 9223372036854775807 := hol
  replace hom : oc ≤ 9223372036854775807 := hom
  have HV0 := Lib.hid hv
  obtain ⟨sl1, hv1, hi1⟩ := hR1.ex
  obtain ⟨x1, xc1, rfl, _, _⟩ := ints_shape hi1
  obtain ⟨sl2, hv2, hi2⟩ := hR2.ex
  obtain ⟨x2, xc2, rfl, _, _⟩ := ints_shape hi2
  have HV1 := Lib.hid hR1
  have HV2 := Lib.hid hR2
  unfold rtV at hv1 hv2
  rw [hv1] at HV1 ⊢
  rw [hv2] at HV2 ⊢
  have HW1 := Lib.hid (ownR_w hG1)
  have HW2 := Lib.hid (ownR_w hG2)
  obtain ⟨P0, hP0⟩ : ∃ P, (newD 256).pages = P := ⟨_, rfl⟩
  have hpl : P0.length = 256 := by rw [← hP0]; simp [newD]
  have hpo : ∀ b ∈ P0, BOk b := by rw [← hP0]; exact (newD_good (by decide)).pages
  have hps : SecLe 1152921504606846975 P0 := by rw [← hP0]; exact fun b hb s hs => Nat.le_trans (newD_sec 256 b hb s hs) (Nat.zero_le _)
  have HN : Hid (∀ W, Calls Try.prog 10 #[.int .i64 256] W fun e w' => ∃ p c, e = .returned (.tuple #[.agg #[p, c, .int .i64 (-1), .bool false], .int .i64 0]) ∧ w'.ownsRow W.heap.size 38 132 p 256 (P0.flatMap blkC) ∧ w'.ownsRow W.heap.size 88 133 c 0 [] ∧ Below W.heap.size W w') := Lib.hid (fun W => (new_R 256 (by decide) (by decide) W).mono (by
    rintro e w2 ⟨u, rfl, ⟨p, c, rfl, h1, h2⟩, h3⟩
    rw [hP0, hpl] at h1
    exact ⟨p, c, rfl, h1, h2, h3⟩))
  have HP0 := Lib.hid (And.intro hpl (And.intro hpo hps))
  have HO := Lib.hid ho
  clear hP0 hpl hpo hps ho hv hR1 hR2 hG1 hG2 hv1 hv2 hi1 hi2
  have HV1w := HV1
  have HV2w := HV2
  have HB := Lib.hid (Below.refl w.heap.size w)
  go_enter Try.func3, Try.ntmps3
  go_upto_region 1 with (fail)
  refine Agg.wp_at fun w1 hw1 => ?_
  have hb : Below w.heap.size w w1 := by rw [hw1.out]; repeat (first | exact Below.refl _ _ | refine Agg.bel_drew ?_ | refine Agg.bel_alloc ?_ _)
  replace HB := Lib.hid (HB.out.trans (hb.mono HB.out.size))
  replace HV1 := Lib.hid (HV1.out.keep hb)
  replace HV2 := Lib.hid (HV2.out.keep hb)
  clear hb
  have H6 : Hid (Blk w1 w.heap.size 26 [.int .i64 r1.slot, .int .u64 (r1.stamp : Int), .slice x1 r1.pages.length xc1, .int .i64 r1.bytes]) := by show Blk _ _ _ _; rw [hw1.out]; exact (Blk.new w 26 #[.int .i64 r1.slot, .int .u64 (r1.stamp : Int), .slice x1 r1.pages.length xc1, .int .i64 r1.bytes]).al _
  have H7 : Hid (Blk w1 (w.heap.size + 1) 26 [.int .i64 r2.slot, .int .u64 (r2.stamp : Int), .slice x2 r2.pages.length xc2, .int .i64 r2.bytes]) := by show Blk _ _ _ _; rw [hw1.out]; exact Blk.newAt (w.alloc _) 26 #[.int .i64 r2.slot, .int .u64 (r2.stamp : Int), .slice x2 r2.pages.length xc2, .int .i64 r2.bytes] _ (by simp)
  clear hw1
  go_wp2_with fail
  refine (wakes_any w1).mono ?_
  rintro e w2 ⟨rfl, hb⟩
  replace HB := Lib.hid (HB.out.trans (hb.mono HB.out.size))
  replace H6 := Lib.hid (H6.out.keep hb)
  replace H7 := Lib.hid (H7.out.keep hb)
  clear hb
  go_wp2_with fail
  have hl1 := HB.out.size
  refine (HN.out w2).mono ?_
  rintro e w3 ⟨p, c, rfl, hp, hc, hb⟩
  replace HB := Lib.hid (HB.out.trans (hb.mono HB.out.size))
  replace H6 := Lib.hid (H6.out.keep hb)
  replace H7 := Lib.hid (H7.out.keep hb)
  clear hb
  obtain ⟨pb, pcap, rfl⟩ := ownPos hp (by decide)
  obtain ⟨cx, cc, rfl, _, _⟩ := (ownSl hc).shape
  have HP := Lib.hid (own_base hp hl1)
  have HC := Lib.hid (own_base hc hl1)
  clear hp hc hl1 HN
  go_upto_region 4 with (first
    | (refine Agg.allocRow 30 #[.slice none 0 0, .slice none 0 0, .int .i64 0, .bool false] rfl rfl (by kernel_rfl) ?_; simp only [Act.put, List.setIfInBounds_toArray, List.set_cons_succ, List.set_cons_zero])
    | (refine Agg.gStoreNew 4 [.slice (some ⟨pb, 0, none⟩) 256 pcap, .slice cx 0 cc, .int .i64 (-1), .bool false] rfl rfl rfl rfl rfl rfl (by decide +kernel) rfl rfl (by simp [Value.oneCell']) ?_; simp only [Act.put]))
  have hszP := HB.out.size
  refine Agg.wp_at fun w4 hw4 => ?_
  have hb : Below w3.heap.size w3 w4 := by rw [hw4.out]; repeat (first | exact Below.refl _ _ | refine Agg.bel_drew ?_ | refine Agg.bel_alloc ?_ _)
  replace HB := Lib.hid (HB.out.trans (hb.mono HB.out.size))
  replace H6 := Lib.hid (H6.out.keep hb)
  replace H7 := Lib.hid (H7.out.keep hb)
  replace HP := Lib.hid (HP.out.keep hb)
  replace HC := Lib.hid (HC.out.keep hb)
  clear hb
  have H11 : Hid (Blk w4 w3.heap.size 30 [.slice (some ⟨pb, 0, none⟩) 256 pcap, .slice cx 0 cc, .int .i64 (-1), .bool false]) := by show Blk _ _ _ _; rw [hw4.out]; exact Blk.new w3 30 #[.slice (some ⟨pb, 0, none⟩) 256 pcap, .slice cx 0 cc, .int .i64 (-1), .bool false]
  clear hw4
  generalize w3.heap.size = g11 at *
  have HL11 : Hid (w.heap.size ≤ g11) := Lib.hid hszP
  clear hszP
  refine Agg.listR 8 (by kernel_rfl) ?_
  simp only [List.take_succ_cons, List.take_zero, List.drop_succ_cons, List.drop_zero]
  refine Agg.chMove rfl rfl rfl rfl ?_
  refine Agg.chNe false (by decide) rfl rfl rfl rfl rfl ?_
  refine Agg.chMove rfl rfl rfl rfl ?_
  refine Agg.chFA (by first | exact fo_fo_Dev_0 | exact fo_Rt_0) rfl rfl rfl rfl ?_
  refine Agg.chLoadB H11.out (by decide +kernel) rfl rfl (by rfl) rfl rfl ?_
  refine Agg.chLen Try.underlying22 rfl rfl rfl rfl ?_
  refine Agg.chNe false (by decide) rfl rfl rfl rfl rfl ?_
  refine Agg.chPick rfl rfl rfl rfl rfl ?_
  refine Agg.chEnd ?_
  intro vs w5 hb _
  show Exit.then _ _ Exit.normal _ _
  simp only [List.reverse, List.reverseAux, Agg.fill, List.set_cons_succ, List.set_cons_zero]
  replace HB := Lib.hid (HB.out.trans (hb.mono HB.out.size))
  replace H6 := Lib.hid (H6.out.keep hb)
  replace H7 := Lib.hid (H7.out.keep hb)
  replace HP := Lib.hid (HP.out.keep hb)
  replace HC := Lib.hid (HC.out.keep hb)
  replace H11 := Lib.hid (H11.out.keep hb)
  clear hb
  go_wp2_with fail
  obtain ⟨wZ, hwZ⟩ : ∃ x, x = w5 := ⟨_, rfl⟩
  subst hwZ
  go_loopw [41, 13, 14] (fun ix s13 s14 wr => ∃ (k : Nat) (Ps : List (List Sec)), k ≤ old.length ∧ ix = .int .i64 k ∧ Blk wr w.heap.size 26 [.int .i64 r1.slot, .int .u64 (r1.stamp : Int), .slice x1 r1.pages.length xc1, .int .i64 r1.bytes] ∧ Blk wr (w.heap.size + 1) 26 [.int .i64 r2.slot, .int .u64 (r2.stamp : Int), .slice x2 r2.pages.length xc2, .int .i64 r2.bytes] ∧ wr.ownsRow w.heap.size 38 132 (.slice (some ⟨pb, 0, none⟩) 256 pcap) 256 (Ps.flatMap blkC) ∧ wr.ownsRow w.heap.size 88 133 (.slice cx 0 cc) 0 [] ∧ Blk wr g11 30 [.slice (some ⟨pb, 0, none⟩) 256 pcap, .slice cx 0 cc, .int .i64 (-1), .bool false] ∧ Below w.heap.size w wr ∧ Ps.length = 256 ∧ (∀ b ∈ Ps, BOk b) ∧ SecLe 1152921504606846975 Ps) (fun ix _ _ _ => old.length - (intOf ix).toNat)
  case atStart => exact ⟨0, P0, by omega, rfl, H6.out, H7.out, HP.out, HC.out, H11.out, HB.out, HP0.out.1, HP0.out.2.1, HP0.out.2.2⟩
  case round =>
    clear H6 H7 HP HC H11 HB HP0
    obtain ⟨k, Ps, hk, rfl, h6, h7, hp, hc, h11, hb, hpl, hpo, hps⟩ := hrel
    have H6 := Lib.hid h6
    have H7 := Lib.hid h7
    have HP := Lib.hid hp
    have HC := Lib.hid hc
    have H11 := Lib.hid h11
    have HB := Lib.hid hb
    have HPO := Lib.hid (And.intro hpl (And.intro hpo hps))
    clear h6 h7 hp hc h11 hb hpl hpo hps
    obtain ⟨wA, hwA⟩ : ∃ x, x = wr := ⟨_, rfl⟩
    subst hwA
    by_cases hlt : k < old.length
    · obtain ⟨ob, oo, oc', hve, _, _, _, _⟩ := SlR.pos HV0.out (by decide) (by omega)
      simp only [Value.slice.injEq, true_and] at hve
      obtain ⟨rfl, rfl⟩ := hve
      have hcs := flat_at blkC 132 (by decide) (SlR.keep HV0.out HB.out) (fun b hb => bok_cells (HO.out b hb)) hlt
      have hbo := HO.out _ (List.getElem_mem hlt)
      have hbc := bok_cells hbo
      have h1 := blkC_one old[k]
      generalize old[k] = ub at *
      go_upto_region 9 with (first
        | (refine Agg.gLoad 132 (blkC ub) rfl rfl rfl (by decide +kernel) hbc hcs ?_; simp only [Act.put, List.setIfInBounds_toArray, List.set_cons_succ, List.set_cons_zero])
        | (refine Agg.allocRow 38 (blkC zeroB).toArray rfl rfl (by kernel_rfl) ?_; simp only [Act.put, List.setIfInBounds_toArray, List.set_cons_succ, List.set_cons_zero])
        | (refine Agg.gStoreNew 132 (blkC ub) rfl rfl rfl rfl rfl rfl (by decide +kernel) hbc zero132 h1 ?_; simp only [Act.put]))
      refine Agg.wp_at fun w41 hw41 => ?_
      have hb : Below wA.heap.size wA w41 := by rw [hw41.out]; repeat (first | exact Below.refl _ _ | refine Agg.bel_drew ?_ | refine Agg.bel_alloc ?_ _)
      replace HB := Lib.hid (HB.out.trans (hb.mono HB.out.size))
      replace H6 := Lib.hid (H6.out.keep hb)
      replace H7 := Lib.hid (H7.out.keep hb)
      replace HP := Lib.hid (HP.out.keep hb)
      replace HC := Lib.hid (HC.out.keep hb)
      replace H11 := Lib.hid (H11.out.keep hb)
      clear hb
      have H14 : Hid (Blk w41 wA.heap.size 38 (blkC ub)) := by show Blk _ _ _ _; rw [hw41.out]; exact Blk.new wA 38 (blkC ub).toArray
      clear hw41
      generalize wA.heap.size = g14 at *
      have HBO := Lib.hid hbo
      have HBC := Lib.hid hbc
      clear hcs hbo hbc h1 HV0
      obtain ⟨gr, hgr⟩ : ∃ g, grB [ub] = g := ⟨_, rfl⟩
      have HGR := Lib.hid hgr
      clear hgr
      by_cases h2 : k < 2
      · have hk2 : decide ((k : Int) < 2) = true := by simp; omega
        by_cases hgx : gr < 1152921504606846976
        · have hgb : decide ((gr : Int) < 1152921504606846976) = true := by simp; omega
          refine Agg.listR 8 (by kernel_rfl) ?_
          simp only [List.take_succ_cons, List.take_zero, List.drop_succ_cons, List.drop_zero]
          refine Agg.chMove rfl rfl rfl rfl ?_
          refine Agg.chLt true hk2 rfl rfl rfl rfl rfl ?_
          refine Agg.chMove rfl rfl rfl rfl ?_
          refine Agg.chRowB 132 H14.out HBC.out (by decide +kernel) rfl rfl rfl rfl ?_
          refine Agg.chBuildSlice (e := 38) (blkC ub).toArray rfl rfl rfl rfl (fun W => lit_blk ub HBO.out W) ?_
          refine Agg.chCall1 Try.func11 rfl (by kernel_rfl) (.int .u64 (gr : Int)) 4 rfl rfl rfl rfl rfl rfl (fun u W hb hu => great_one ub HBO.out gr _ HGR.out u W hu) ?_
          refine Agg.chLt true hgb rfl rfl rfl rfl rfl ?_
          refine Agg.chPick rfl rfl rfl rfl rfl ?_
          refine Agg.chEnd ?_
          intro vs w42 hb _
          show Exit.then _ _ Exit.normal _ _
          simp only [List.reverse, List.reverseAux, Agg.fill, List.set_cons_succ, List.set_cons_zero]
          replace HB := Lib.hid (HB.out.trans (hb.mono HB.out.size))
          replace H6 := Lib.hid (H6.out.keep hb)
          replace H7 := Lib.hid (H7.out.keep hb)
          replace HP := Lib.hid (HP.out.keep hb)
          replace HC := Lib.hid (HC.out.keep hb)
          replace H11 := Lib.hid (H11.out.keep hb)
          replace H14 := Lib.hid (H14.out.keep hb)
          clear hb
          clear hk2 hgb
          go_upto_region 10 with (fail)
          refine Agg.listR 5 (by kernel_rfl) ?_
          simp only [List.take_succ_cons, List.take_zero, List.drop_succ_cons, List.drop_zero]
          refine Agg.chFA (by first | exact fo_fo_Dev_0 | exact fo_Rt_0) rfl rfl rfl rfl ?_
          refine Agg.chLoadB H11.out (by decide +kernel) rfl rfl (by rfl) rfl rfl ?_
          refine Agg.chMove rfl rfl rfl rfl ?_
          refine Agg.chRowB 132 H14.out HBC.out (by decide +kernel) rfl rfl rfl rfl ?_
          refine Agg.chIA tiBl (by omega) (by omega) rfl rfl rfl rfl rfl ?_
          refine Agg.chEnd ?_
          intro vs w43 hb _
          simp only [List.reverse, List.reverseAux, Agg.fill, List.set_cons_succ, List.set_cons_zero]
          replace HB := Lib.hid (HB.out.trans (hb.mono HB.out.size))
          replace H6 := Lib.hid (H6.out.keep hb)
          replace H7 := Lib.hid (H7.out.keep hb)
          replace HP := Lib.hid (HP.out.keep hb)
          replace HC := Lib.hid (HC.out.keep hb)
          replace H11 := Lib.hid (H11.out.keep hb)
          replace H14 := Lib.hid (H14.out.keep hb)
          clear hb
          simp only [Nat.zero_add]
          have hpw : w.heap.size ≤ pb := by obtain ⟨_, _, h, _⟩ := ownBlk HP.out; exact h
          obtain ⟨pr, hpr, _⟩ := ownBlk HP.out
          refine gStorePg k ub HP.out HPO.out.2.1 HPO.out.1 (by omega) HBO.out rfl rfl rfl rfl rfl (by decide +kernel) (fun w80 hp80 hg80 => ?_)
          have X1 := Lib.hid (H6.out.far' hg80 (blk_ne H6.out hpr (by decide)))
          have X2 := Lib.hid (H7.out.far' hg80 (blk_ne H7.out hpr (by decide)))
          have X3 := Lib.hid hp80
          have X4 := Lib.hid (HC.out.kept hg80 (own_apart HC.out hpr (by decide)))
          have X5 := Lib.hid (H11.out.far' hg80 (blk_ne H11.out hpr (by decide)))
          have X6 := Lib.hid (HB.out.trans (grown_below hg80 HB.out.size (fun j hj => by cases hj; omega)))
          have X7 := Lib.hid (And.intro (show (Ps.set k ub).length = 256 by rw [List.length_set]; exact HPO.out.1) (And.intro (set_bok HPO.out.2.1 k HBO.out) (set_sec HPO.out.2.2 (k := k) (b := ub) (by rw [HGR.out]; omega))))
          clear hp80 hg80 hpr H6 H7 HP HC H11 HB HPO HBO H14 HBC
          go_wp2_with fail
          refine ⟨?_, by simp [intOf]; omega⟩
          exact ⟨_, _, _, ⟨k + 1, by omega, by go_num, X1.out, X2.out, Ps.set k ub, X3.out, X4.out, X5.out, X6.out, X7.out.1, X7.out.2.1, X7.out.2.2⟩, rfl, rfl, rfl⟩
        · have hgb : decide ((gr : Int) < 1152921504606846976) = false := by simp; omega
          refine Agg.listR 8 (by kernel_rfl) ?_
          simp only [List.take_succ_cons, List.take_zero, List.drop_succ_cons, List.drop_zero]
          refine Agg.chMove rfl rfl rfl rfl ?_
          refine Agg.chLt true hk2 rfl rfl rfl rfl rfl ?_
          refine Agg.chMove rfl rfl rfl rfl ?_
          refine Agg.chRowB 132 H14.out HBC.out (by decide +kernel) rfl rfl rfl rfl ?_
          refine Agg.chBuildSlice (e := 38) (blkC ub).toArray rfl rfl rfl rfl (fun W => lit_blk ub HBO.out W) ?_
          refine Agg.chCall1 Try.func11 rfl (by kernel_rfl) (.int .u64 (gr : Int)) 4 rfl rfl rfl rfl rfl rfl (fun u W hb hu => great_one ub HBO.out gr _ HGR.out u W hu) ?_
          refine Agg.chLt false hgb rfl rfl rfl rfl rfl ?_
          refine Agg.chPick rfl rfl rfl rfl rfl ?_
          refine Agg.chEnd ?_
          intro vs w44 hb _
          show Exit.then _ _ Exit.normal _ _
          simp only [List.reverse, List.reverseAux, Agg.fill, List.set_cons_succ, List.set_cons_zero]
          replace HB := Lib.hid (HB.out.trans (hb.mono HB.out.size))
          replace H6 := Lib.hid (H6.out.keep hb)
          replace H7 := Lib.hid (H7.out.keep hb)
          replace HP := Lib.hid (HP.out.keep hb)
          replace HC := Lib.hid (HC.out.keep hb)
          replace H11 := Lib.hid (H11.out.keep hb)
          replace H14 := Lib.hid (H14.out.keep hb)
          clear hb
          clear hk2 hgb HBO H14 HBC HGR
          go_wp2_with fail
          exact ⟨⟨k + 1, Ps, by omega, by go_num, H6.out, H7.out, HP.out, HC.out, H11.out, HB.out, HPO.out.1, HPO.out.2.1, HPO.out.2.2⟩, by simp [intOf]; omega⟩
      · have hk2 : decide ((k : Int) < 2) = false := by simp; omega
        refine Agg.listR 8 (by kernel_rfl) ?_
        simp only [List.take_succ_cons, List.take_zero, List.drop_succ_cons, List.drop_zero]
        refine Agg.chMove rfl rfl rfl rfl ?_
        refine Agg.chLt false hk2 rfl rfl rfl rfl rfl ?_
        refine Agg.chMove rfl rfl rfl rfl ?_
        refine Agg.chSkip rfl rfl ?_
        refine Agg.chSkip rfl rfl ?_
        refine Agg.chSkip rfl rfl ?_
        refine Agg.chSkip rfl rfl ?_
        refine Agg.chPick rfl rfl rfl rfl rfl ?_
        refine Agg.chEnd ?_
        intro vs w45 hb _
        show Exit.then _ _ Exit.normal _ _
        simp only [List.reverse, List.reverseAux, Agg.fill, List.set_cons_succ, List.set_cons_zero]
        replace HB := Lib.hid (HB.out.trans (hb.mono HB.out.size))
        replace H6 := Lib.hid (H6.out.keep hb)
        replace H7 := Lib.hid (H7.out.keep hb)
        replace HP := Lib.hid (HP.out.keep hb)
        replace HC := Lib.hid (HC.out.keep hb)
        replace H11 := Lib.hid (H11.out.keep hb)
        replace H14 := Lib.hid (H14.out.keep hb)
        clear hb
        clear hk2 HBO H14 HBC HGR
        go_wp2_with fail
        exact ⟨⟨k + 1, Ps, by omega, by go_num, H6.out, H7.out, HP.out, HC.out, H11.out, HB.out, HPO.out.1, HPO.out.2.1, HPO.out.2.2⟩, by simp [intOf]; omega⟩
    · obtain rfl : k = old.length := by omega
      have hCalm : Calm (oldD Ps) := calm_of HPO.out.1 HPO.out.2.1
      have hdv := old_dev HPO.out.1 HP.out HC.out
      have hgB : grB (oldD Ps).pages ≤ 1152921504606846975 := grB_le.2 HPO.out.2.2
      obtain ⟨d1, hd1⟩ : ∃ d, oldD Ps = d := ⟨_, rfl⟩
      rw [hd1] at hCalm hdv hgB
      obtain ⟨px, hpx⟩ : ∃ x, some (⟨pb, 0, none⟩ : Addr) = x := ⟨_, rfl⟩
      rw [hpx] at hdv H11
      have HDV := Lib.hid hdv
      have HCM := Lib.hid hCalm
      obtain ⟨G, hG⟩ : ∃ G, grB d1.pages = G := ⟨_, rfl⟩
      rw [hG] at hgB
      have HG := Lib.hid hG
      have HGT := Lib.hid (fun W v (h : Blks W v d1.pages) => great_any d1.pages hCalm.good.pages v W h)
      rw [hG] at HGT
      have had := u64_plus (G := G) (by omega)
      obtain ⟨st, hst⟩ : ∃ s, G + 1 = s := ⟨_, rfl⟩
      rw [hst] at had
      have HAD := Lib.hid had
      have HST := Lib.hid hst
      obtain ⟨o, ho⟩ : ∃ o, findR d1 = o := ⟨_, rfl⟩
      have HFO := Lib.hid ho
      obtain ⟨r, hr⟩ : ∃ r, o.getD rt0 = r := ⟨_, rfl⟩
      obtain ⟨e, he⟩ : ∃ e : Int, (if o.isSome then (0 : Int) else 331) = e := ⟨_, rfl⟩
      have HF := Lib.hid (fun W v h => find_any d1 v W hCalm.good (by rw [hCalm.cache]; decide) h r e (by rw [pow_why hCalm.pow, if_neg (by decide), ho, hr]) (by rw [pow_why hCalm.pow, if_neg (by decide), ho, he]))
      have HRO := Lib.hid (And.intro hr he)
      clear hlt hk HV0 HP HC HPO hCalm hdv hd1 hpx hG ho hr he had hst
      have h11 := H11.out
      have hsz := HB.out.size
      go_wp2_with (refine Agg.gLoadB 4 h11 rfl rfl rfl rfl (by decide +kernel) ?_; simp only [Act.put, List.setIfInBounds_toArray, List.set_cons_succ, List.set_cons_zero])
      clear h11
      refine (HF.out wA _ HDV.out.read).mono ?_
      rintro e w46 ⟨v, rfl, hv, hb⟩
      replace HB := Lib.hid (HB.out.trans (hb.mono HB.out.size))
      replace H6 := Lib.hid (H6.out.keep hb)
      replace H7 := Lib.hid (H7.out.keep hb)
      replace HDV := Lib.hid (HDV.out.keep hb)
      replace H11 := Lib.hid (H11.out.keep hb)
      clear hb
      have HVR := Lib.hid (hv.base hsz)
      obtain ⟨slr, hvv, hvo⟩ := hv
      obtain ⟨xr, xcr, rfl, _, _⟩ := (ownSl hvo).shape
      unfold rtV at hvv
      subst hvv
      clear hvo HF hsz
      go_upto_region 13 with (first
        | (refine Agg.allocRow 26 #[.int .i64 0, .int .u64 0, .slice none 0 0, .int .i64 0] rfl rfl (by kernel_rfl) ?_; simp only [Act.put, List.setIfInBounds_toArray, List.set_cons_succ, List.set_cons_zero])
        | (refine Agg.gStoreNew 4 [.int .i64 r.slot, .int .u64 (r.stamp : Int), .slice xr r.pages.length xcr, .int .i64 r.bytes] rfl rfl rfl rfl rfl rfl (by decide +kernel) rfl rfl (by simp [Value.oneCell']) ?_; simp only [Act.put]))
      have hszP := H7.out.lt
      refine Agg.wp_at fun w47 hw47 => ?_
      have hb : Below w46.heap.size w46 w47 := by rw [hw47.out]; repeat (first | exact Below.refl _ _ | refine Agg.bel_drew ?_ | refine Agg.bel_alloc ?_ _)
      replace HB := Lib.hid (HB.out.trans (hb.mono HB.out.size))
      replace H6 := Lib.hid (H6.out.keep hb)
      replace H7 := Lib.hid (H7.out.keep hb)
      replace HDV := Lib.hid (HDV.out.keep hb)
      replace H11 := Lib.hid (H11.out.keep hb)
      replace HVR := Lib.hid (HVR.out.keep hb)
      clear hb
      have H15 : Hid (Blk w47 w46.heap.size 26 [.int .i64 r.slot, .int .u64 (r.stamp : Int), .slice xr r.pages.length xcr, .int .i64 r.bytes]) := by show Blk _ _ _ _; rw [hw47.out]; exact Blk.new w46 26 #[.int .i64 r.slot, .int .u64 (r.stamp : Int), .slice xr r.pages.length xcr, .int .i64 r.bytes]
      clear hw47
      generalize w46.heap.size = g15 at *
      have HL15 : Hid (w.heap.size + 1 < g15) := Lib.hid hszP
      clear hszP
      go_upto_if 66 with (fail)
      obtain ⟨wC, hwC⟩ : ∃ x, x = w47 := ⟨_, rfl⟩
      subst hwC
      have HBY := HB
      clear HB
      go_cut [16, 17] from 66 to 91 (fun s16 s17 wx => ∃ (d : Dev) (was : Rt) (px cx x : Option Addr) (pc cc c : Nat), Stand d was ∧ grB d.pages ≤ 1152921504606846976 ∧ DevO w.heap.size wx (.agg #[.slice px 256 pc, .slice cx 0 cc, .int .i64 (-1), .bool false]) d ∧ Blk wx g11 30 [.slice px 256 pc, .slice cx 0 cc, .int .i64 (-1), .bool false] ∧ RtO w.heap.size wx (.agg #[.int .i64 was.slot, .int .u64 (was.stamp : Int), .slice x was.pages.length c, .int .i64 was.bytes]) was ∧ Blk wx g15 26 [.int .i64 was.slot, .int .u64 (was.stamp : Int), .slice x was.pages.length c, .int .i64 was.bytes] ∧ Blk wx (w.heap.size + 1) 26 [.int .i64 r2.slot, .int .u64 (r2.stamp : Int), .slice x2 r2.pages.length xc2, .int .i64 r2.bytes] ∧ Below w.heap.size w wx)
      case first =>
        have HB := HBY
        cases o with
        | some y =>
          obtain ⟨e1, e2⟩ := HRO.out
          have e1' : y = r := e1
          have e2' : (0 : Int) = e := e2
          subst e2'
          have hst : Stand d1 r := stand_found HCM.out (by rw [HFO.out, e1'])
          clear e1 e2
          go_wp2_with fail
          go_meet
          exact ⟨d1, r, px, cx, xr, pcap, cc, xcr, hst, by rw [HG.out]; omega, HDV.out, H11.out, HVR.out, H15.out, H7.out, HB.out⟩
        | none =>
          obtain ⟨e1, e2⟩ := HRO.out
          have e2' : (331 : Int) = e := e2
          subst e2'
          clear e1 e2 HVR
          have HO1 := Lib.hid (fun W v h => rown_any r1 v W h)
          have hwa := HW1.out
          obtain ⟨a, ha⟩ : ∃ a, ownR r1 = a := ⟨_, rfl⟩
          rw [ha] at HO1 hwa
          obtain ⟨asl, ast, aL, ab⟩ := a
          have hst1 := HST.out
          have hwA : RtW ⟨1, st, aL, ab⟩ := ⟨by show (-9223372036854775808 : Int) ≤ 1; decide, by show (1 : Int) ≤ 9223372036854775807; decide, by show st < _; omega, hwa.b1, hwa.b2, hwa.ps, hwa.n⟩
          obtain ⟨⟨e3, D3⟩, hp⟩ : ∃ x, putRt d1 ⟨1, st, aL, ab⟩ = x := ⟨_, rfl⟩
          have HPT := Lib.hid (fun W u v h1 h2 => rtPut_any d1 ⟨1, st, aL, ab⟩ u v W HCM.out.good (by rw [HCM.out.cache]; decide) h1 h2 hwA e3 D3 hp)
          have HCK := Lib.hid (fun W v h => rtCheck_any ⟨1, st, aL, ab⟩ v W h hwA)
          obtain ⟨qa, hqa⟩ : ∃ q, rightB ⟨1, st, aL, ab⟩ = q := ⟨_, rfl⟩
          rw [put_calm HCM.out, hqa] at hp
          rw [hqa] at HCK
          have HPC := Lib.hid hp
          have HQA := Lib.hid hqa
          clear hp hqa hwA hwa ha hst1
          have h6 := H6.out
          have hsz := HB.out.size
          go_wp2_with (refine Agg.gLoadB 4 h6 rfl rfl rfl rfl (by decide +kernel) ?_; simp only [Act.put, List.setIfInBounds_toArray, List.set_cons_succ, List.set_cons_zero])
          clear h6
          refine (HO1.out wC _ (RtR.keep HV1w.out HB.out)).mono ?_
          rintro e w61 ⟨v, rfl, hv, hb⟩
          replace HB := Lib.hid (HB.out.trans (hb.mono HB.out.size))
          replace H6 := Lib.hid (H6.out.keep hb)
          replace H7 := Lib.hid (H7.out.keep hb)
          replace HDV := Lib.hid (HDV.out.keep hb)
          replace H11 := Lib.hid (H11.out.keep hb)
          replace H15 := Lib.hid (H15.out.keep hb)
          clear hb
          have HVA := Lib.hid (hv.base hsz)
          obtain ⟨sla, hvv, hvo⟩ := hv
          obtain ⟨xa, xca, rfl, _, _⟩ := (ownSl hvo).shape
          unfold rtV at hvv
          dsimp only at hvv
          subst hvv
          clear hvo hsz HO1
          have h15 := H15.out
          go_upto_region 15 with (refine Agg.gStoreB 4 [.int .i64 asl, .int .u64 (ast : Int), .slice xa aL.length xca, .int .i64 ab] h15 rfl rfl rfl rfl rfl (by decide +kernel) rfl rfl (by simp [Value.oneCell']) (fun w70 hb70 hg70 => ?_))
          have hl15 := HL15.out
          have X7 := Lib.hid (H7.out.far' hg70 (by omega))
          have XD := Lib.hid (devO_far HDV.out h15 (by decide) (by decide) hg70)
          have X11 := Lib.hid (H11.out.far' hg70 (blk_ne H11.out h15 (by decide)))
          have XA := Lib.hid (RtO.far HVA.out h15 (by decide) hg70)
          have XB := Lib.hid (HB.out.trans (grown_below hg70 HB.out.size (fun j hj => by cases hj; omega)))
          have X15 := Lib.hid hb70
          clear h15 hb70 hg70 hl15 H7 HDV H11 HVA HB H15 H6
          have HB := XB
          refine Agg.listR 4 (by kernel_rfl) ?_
          simp only [List.take_succ_cons, List.take_zero, List.drop_succ_cons, List.drop_zero]
          refine Agg.chFA (by first | exact fo_fo_Dev_0 | exact fo_Rt_0) rfl rfl rfl rfl ?_
          refine Agg.chLoadB X11.out (by decide +kernel) rfl rfl (by rfl) rfl rfl ?_
          refine Agg.chCall Try.func11 rfl (by kernel_rfl) rfl rfl rfl rfl (fun W hb => HGT.out W _ (dev_pages (XD.out.keep hb) HCM.out.len)) ?_
          refine Agg.chAr (r := (st : Int)) rfl rfl rfl (congrArg some HAD.out) rfl rfl ?_
          refine Agg.chEnd ?_
          intro vs w76 hb _
          simp only [List.reverse, List.reverseAux, Agg.fill, List.set_cons_succ, List.set_cons_zero]
          replace HB := Lib.hid (HB.out.trans (hb.mono HB.out.size))
          replace X7 := Lib.hid (X7.out.keep hb)
          replace XD := Lib.hid (XD.out.keep hb)
          replace X11 := Lib.hid (X11.out.keep hb)
          replace XA := Lib.hid (XA.out.keep hb)
          replace X15 := Lib.hid (X15.out.keep hb)
          clear hb
          have h15 := X15.out
          have e76 : spliced [.int .i64 asl, .int .u64 (ast : Int), .slice xa aL.length xca, .int .i64 ab] 0 [.int .i64 1] = [.int .i64 1, .int .u64 (ast : Int), .slice xa aL.length xca, .int .i64 ab] := rfl
          have e77 : spliced [.int .i64 1, .int .u64 (ast : Int), .slice xa aL.length xca, .int .i64 ab] 1 [.int .u64 (st : Int)] = [.int .i64 1, .int .u64 (st : Int), .slice xa aL.length xca, .int .i64 ab] := rfl
          go_upto_region 16 with (first
            | (refine Agg.gStoreCell 0 (.int .i64 1) h15 rfl rfl rfl rfl rfl (by kernel_rfl) rfl (by simp) rfl (fun w76 hb76 hg76 => ?_); rw [e76] at hb76)
            | (refine Agg.gStoreCell 1 (.int .u64 (st : Int)) hb76 rfl rfl rfl rfl rfl (by kernel_rfl) rfl (by simp) rfl (fun w77 hb77 hg77 => ?_); rw [e77] at hb77))
          have hl15 := HL15.out
          have Y7 := Lib.hid ((X7.out.far' hg76 (by omega)).far' hg77 (by omega))
          have YD := Lib.hid (devO_far (devO_far XD.out h15 (by decide) (by decide) hg76) hb76 (by decide) (by decide) hg77)
          have Y11 := Lib.hid ((X11.out.far' hg76 (blk_ne X11.out h15 (by decide))).far' hg77 (blk_ne X11.out h15 (by decide)))
          have YA : Hid (RtO w.heap.size w77 (.agg #[.int .i64 1, .int .u64 (st : Int), .slice xa aL.length xca, .int .i64 ab]) ⟨1, st, aL, ab⟩) := Lib.hid ⟨_, rfl, rtO_row (r := ⟨asl, ast, aL, ab⟩) (RtO.far (RtO.far XA.out h15 (by decide) hg76) hb76 (by decide) hg77)⟩
          have hb1 := HB.out.trans (grown_below hg76 HB.out.size (fun j hj => by cases hj; omega))
          have YB := Lib.hid (hb1.trans (grown_below hg77 hb1.size (fun j hj => by cases hj; omega)))
          have Y15 := Lib.hid hb77
          clear e76 e77 h15 hb76 hg76 hb77 hg77 hl15 hb1 X7 XD X11 XA HB X15
          have HB := YB
          have h11 := Y11.out
          have h15 := Y15.out
          have hsz := HB.out.size
          go_wp2_with (first
            | (refine Agg.gLoadB 4 h11 rfl rfl rfl rfl (by decide +kernel) ?_; simp only [Act.put, List.setIfInBounds_toArray, List.set_cons_succ, List.set_cons_zero])
            | (refine Agg.gLoadB 4 h15 rfl rfl rfl rfl (by decide +kernel) ?_; simp only [Act.put, List.setIfInBounds_toArray, List.set_cons_succ, List.set_cons_zero]))
          clear h11 h15
          refine (HPT.out w77 _ _ YD.out.read YA.out.read).mono ?_
          rintro e w79 ⟨u, rfl, hu, hb⟩
          replace HB := Lib.hid (HB.out.trans (hb.mono HB.out.size))
          replace Y7 := Lib.hid (Y7.out.keep hb)
          replace YD := Lib.hid (YD.out.keep hb)
          replace Y11 := Lib.hid (Y11.out.keep hb)
          replace YA := Lib.hid (YA.out.keep hb)
          replace Y15 := Lib.hid (Y15.out.keep hb)
          clear hb
          have HU3 := Lib.hid (hu.base hsz)
          obtain ⟨px3, pc3, cx3, cc3, rfl⟩ := hu.read.shape
          clear hu hsz HPT
          go_upto_region 17 with (first
            | (refine Agg.allocRow 30 #[.slice none 0 0, .slice none 0 0, .int .i64 0, .bool false] rfl rfl (by kernel_rfl) ?_; simp only [Act.put, List.setIfInBounds_toArray, List.set_cons_succ, List.set_cons_zero])
            | (refine Agg.gStoreNew 4 [.slice px3 D3.pages.length pc3, .slice cx3 D3.cache.length cc3, .int .i64 D3.fuse, .bool D3.off] rfl rfl rfl rfl rfl rfl (by decide +kernel) rfl rfl (by simp [Value.oneCell']) ?_; simp only [Act.put]))
          refine Agg.wp_at fun w80 hw80 => ?_
          have hb : Below w79.heap.size w79 w80 := by rw [hw80.out]; repeat (first | exact Below.refl _ _ | refine Agg.bel_drew ?_ | refine Agg.bel_alloc ?_ _)
          replace HB := Lib.hid (HB.out.trans (hb.mono HB.out.size))
          replace Y7 := Lib.hid (Y7.out.keep hb)
          replace YA := Lib.hid (YA.out.keep hb)
          replace Y11 := Lib.hid (Y11.out.keep hb)
          replace Y15 := Lib.hid (Y15.out.keep hb)
          replace HU3 := Lib.hid (HU3.out.keep hb)
          clear hb
          have H16 : Hid (Blk w80 w79.heap.size 30 [.slice px3 D3.pages.length pc3, .slice cx3 D3.cache.length cc3, .int .i64 D3.fuse, .bool D3.off]) := by show Blk _ _ _ _; rw [hw80.out]; exact Blk.new w79 30 #[.slice px3 D3.pages.length pc3, .slice cx3 D3.cache.length cc3, .int .i64 D3.fuse, .bool D3.off]
          clear hw80
          generalize w79.heap.size = g16 at *
          rcases (show qa = false ∨ qa = true by cases qa <;> simp) with rfl | rfl
          · obtain rfl : 330 = e3 := congrArg Prod.fst HPC.out
            go_upto_region 18 with (fail)
            refine Agg.listR 8 (by kernel_rfl) ?_
            simp only [List.take_succ_cons, List.take_zero, List.drop_succ_cons, List.drop_zero]
            refine Agg.chMove rfl rfl rfl rfl ?_
            refine Agg.chEq true (by decide) rfl rfl rfl rfl rfl ?_
            refine Agg.chMove rfl rfl rfl rfl ?_
            refine Agg.chRowB 4 Y15.out rfl (by decide +kernel) rfl rfl rfl rfl ?_
            refine Agg.chCall Try.func15 rfl (by kernel_rfl) rfl rfl rfl rfl (fun W hb => HCK.out W _ (RtO.keep YA.out hb).read) ?_
            refine Agg.chMove rfl rfl rfl rfl ?_
            refine Agg.chEq true (by decide) rfl rfl rfl rfl rfl ?_
            refine Agg.chPick rfl rfl rfl rfl rfl ?_
            refine Agg.chEnd ?_
            intro vs w81 hb hf
            simp only [List.reverse, List.reverseAux, Agg.Facts] at hf
            obtain _ := hf
            simp only [List.reverse, List.reverseAux, Agg.fill, List.set_cons_succ, List.set_cons_zero]
            have hbe := HB.out.trans (hb.mono HB.out.size)
            go_wp2_with fail
            go_ret
            exact ⟨rfl, hbe⟩
          · obtain rfl : 0 = e3 := congrArg Prod.fst HPC.out
            have hd3 : putDev d1 ⟨1, st, aL, ab⟩ = D3 := congrArg Prod.snd HPC.out
            obtain ⟨_, hst, hgb⟩ := stand_put HCM.out HFO.out ((right_iff _).1 HQA.out) rfl
            rw [hd3] at hst hgb
            rw [HG.out] at hgb
            have hgb2 : grB D3.pages ≤ 1152921504606846976 := Nat.le_trans hgb (Nat.max_le.2 ⟨by omega, by show st ≤ _; have := HST.out; omega⟩)
            have HS3 := Lib.hid (And.intro hst hgb2)
            have k1 := hst.calm.len
            have k2 : D3.cache.length = 0 := by rw [hst.calm.cache]; rfl
            have k3 := hst.calm.pow.2.2
            have k4 := hst.calm.pow.2.1
            rw [k1, k2, k3, k4] at HU3 H16
            clear k1 k2 k3 k4 hst hgb hgb2 hd3
            have h11 := Y11.out
            have h16 := H16.out
            go_wp2_with (first
              | (refine Agg.gLoadB 4 h16 rfl rfl rfl rfl (by decide +kernel) ?_; simp only [Act.put, List.setIfInBounds_toArray, List.set_cons_succ, List.set_cons_zero])
              | (refine Agg.gStoreB 4 [.slice px3 256 pc3, .slice cx3 0 cc3, .int .i64 (-1), .bool false] h11 rfl rfl rfl rfl rfl (by decide +kernel) rfl rfl (by simp [Value.oneCell']) (fun w90 hb90 hg90 => ?_)))
            go_meet
            have hl11 := HL11.out
            exact ⟨D3, ⟨1, st, aL, ab⟩, px3, cx3, xa, pc3, cc3, xca, HS3.out.1, HS3.out.2, devO_far HU3.out h11 (by decide) (by decide) hg90, hb90, RtO.far YA.out h11 (by decide) hg90, Y15.out.far' hg90 (blk_ne Y15.out h11 (by decide)), Y7.out.far' hg90 (blk_ne Y7.out h11 (by decide)), HB.out.trans (grown_below hg90 HB.out.size (fun j hj => by cases hj; omega))⟩
      case rest =>
        clear HBY H6 H7 HDV H11 HVR H15 HFO HRO HG HGT HAD HST HCM
        obtain ⟨d2, was, px4, cx4, x4, pc4, cc4, c4, hst, hgb, hdv, h11, hwas, h15, h7, hb⟩ := hcut
        have HS := Lib.hid hst
        have HDV := Lib.hid hdv
        have H11 := Lib.hid h11
        have HVW := Lib.hid hwas
        have H15 := Lib.hid h15
        have H7 := Lib.hid h7
        have HB := Lib.hid hb
        have HCM := Lib.hid hst.calm
        have hG2 : ∃ G, grB d2.pages = G := ⟨_, rfl⟩
        obtain ⟨G2, hG2⟩ := hG2
        rw [hG2] at hgb
        have HG := Lib.hid hG2
        have HGT := Lib.hid (fun W v (h : Blks W v d2.pages) => great_any d2.pages hst.calm.good.pages v W h)
        rw [hG2] at HGT
        have had := u64_plus (G := G2) (by omega)
        obtain ⟨st2, hst2⟩ : ∃ s, G2 + 1 = s := ⟨_, rfl⟩
        rw [hst2] at had
        have HAD := Lib.hid had
        have HST := Lib.hid hst2
        have hst3 : st2 ≤ 1152921504606846977 := by omega
        have hsub : IntKind.i64.wrap (1 - was.slot) = 1 - was.slot := by
          rw [IntKind.wrap_i64]
          rcases slot_cases hst with h | h <;> rw [h] <;> decide
        obtain ⟨sl, hsl⟩ : ∃ s, 1 - was.slot = s := ⟨_, rfl⟩
        rw [hsl] at hsub
        have HSL := Lib.hid hsl
        have hsl01 : sl = 0 ∨ sl = 1 := by rcases slot_cases hst with h | h <;> omega
        have HSUB := Lib.hid hsub
        have HO2 := Lib.hid (fun W v h => rown_any r2 v W h)
        have hwa := HW2.out
        obtain ⟨a2, ha⟩ : ∃ a, ownR r2 = a := ⟨_, rfl⟩
        rw [ha] at HO2 hwa
        obtain ⟨isl, ist, iL, ib⟩ := a2
        have hwI : RtW ⟨sl, st2, iL, ib⟩ := ⟨by show (-9223372036854775808 : Int) ≤ sl; omega, by show sl ≤ 9223372036854775807; omega, by show st2 < _; omega, hwa.b1, hwa.b2, hwa.ps, hwa.n⟩
        have HWI := Lib.hid hwI
        clear hst hgb hdv h11 hwas h15 h7 hb hG2 had hst2 hst3 hsub hsl hsl01 hwa ha hwI
        have h7 := H7.out
        have hsz := HB.out.size
        go_wp2_with (refine Agg.gLoadB 4 h7 rfl rfl rfl rfl (by decide +kernel) ?_; simp only [Act.put, List.setIfInBounds_toArray, List.set_cons_succ, List.set_cons_zero])
        clear h7
        refine (HO2.out wc _ (RtR.keep HV2w.out HB.out)).mono ?_
        rintro e w101 ⟨v, rfl, hv, hb⟩
        replace HB := Lib.hid (HB.out.trans (hb.mono HB.out.size))
        replace HDV := Lib.hid (HDV.out.keep hb)
        replace H11 := Lib.hid (H11.out.keep hb)
        replace HVW := Lib.hid (HVW.out.keep hb)
        replace H15 := Lib.hid (H15.out.keep hb)
        replace H7 := Lib.hid (H7.out.keep hb)
        clear hb
        have HVI := Lib.hid (hv.base hsz)
        obtain ⟨sli, hvv, hvo⟩ := hv
        obtain ⟨xi, xci, rfl, _, _⟩ := (ownSl hvo).shape
        unfold rtV at hvv
        dsimp only at hvv
        subst hvv
        clear hvo hsz HO2
        have hszP := And.intro HB.out.size H15.out.lt
        go_upto_region 21 with (first
          | (refine Agg.allocRow 26 #[.int .i64 0, .int .u64 0, .slice none 0 0, .int .i64 0] rfl rfl (by kernel_rfl) ?_; simp only [Act.put, List.setIfInBounds_toArray, List.set_cons_succ, List.set_cons_zero])
          | (refine Agg.gStoreNew 4 [.int .i64 isl, .int .u64 (ist : Int), .slice xi iL.length xci, .int .i64 ib] rfl rfl rfl rfl rfl rfl (by decide +kernel) rfl rfl (by simp [Value.oneCell']) ?_; simp only [Act.put]))
        refine Agg.wp_at fun w102 hw102 => ?_
        have hb : Below w101.heap.size w101 w102 := by rw [hw102.out]; repeat (first | exact Below.refl _ _ | refine Agg.bel_drew ?_ | refine Agg.bel_alloc ?_ _)
        replace HB := Lib.hid (HB.out.trans (hb.mono HB.out.size))
        replace HDV := Lib.hid (HDV.out.keep hb)
        replace H11 := Lib.hid (H11.out.keep hb)
        replace HVW := Lib.hid (HVW.out.keep hb)
        replace H15 := Lib.hid (H15.out.keep hb)
        replace HVI := Lib.hid (HVI.out.keep hb)
        clear hb
        have H18 : Hid (Blk w102 w101.heap.size 26 [.int .i64 isl, .int .u64 (ist : Int), .slice xi iL.length xci, .int .i64 ib]) := by show Blk _ _ _ _; rw [hw102.out]; exact Blk.new w101 26 #[.int .i64 isl, .int .u64 (ist : Int), .slice xi iL.length xci, .int .i64 ib]
        clear hw102
        generalize w101.heap.size = g18 at *
        have HL18 := Lib.hid hszP
        clear hszP
        refine Agg.heldBegin (S := fun W => Blk W g15 26 [.int .i64 was.slot, .int .u64 (was.stamp : Int), .slice x4 was.pages.length c4, .int .i64 was.bytes] ∧ Blk W g11 30 [.slice px4 256 pc4, .slice cx4 0 cc4, .int .i64 (-1), .bool false]) 11 (by kernel_rfl) rfl ?_
        have hb0 : Below w102.heap.size w102 w102.drew := bel_drew (Below.refl _ _)
        replace HDV := Lib.hid (HDV.out.keep hb0)
        replace HVW := Lib.hid (HVW.out.keep hb0)
        replace HVI := Lib.hid (HVI.out.keep hb0)
        replace H18 := Lib.hid (H18.out.keep hb0)
        replace HB := Lib.hid (HB.out.trans (hb0.mono HB.out.size))
        have HZ := Lib.hid (And.intro (H15.out.keep hb0) (H11.out.keep hb0))
        clear hb0 H15 H11
        generalize w102.drew = y0 at *
        simp only [List.replicate_succ, List.replicate_zero]
        refine Agg.heldTake (i := 0) (by decide +kernel) rfl rfl rfl (fun W hW => Agg.run_fa fo_Rt_0 rfl (b := g15) (f := 0) rfl) HZ.out ?_
        refine Agg.heldTake (i := 1) (by decide +kernel) rfl rfl rfl (v := .int .i64 was.slot) (fun W hW => Agg.run_ld (t := 3) (by decide +kernel) rfl rfl ((hW.1.cell 0).trans rfl)) HZ.out ?_
        refine Agg.heldTake (i := 2) (by decide +kernel) rfl rfl rfl (v := .int .i64 sl) (fun W hW => Agg.run_ar sl rfl rfl rfl (congrArg some (by rw [HSL.out]; exact HSUB.out))) HZ.out ?_
        refine Agg.heldTake (i := 3) (by decide +kernel) rfl rfl rfl (fun W hW => Agg.run_fa fo_fo_Dev_0 rfl (b := g11) (f := 0) rfl) HZ.out ?_
        simp only [List.set_cons_succ, List.set_cons_zero]
        refine Agg.heldTake (i := 4) (by decide +kernel) rfl rfl rfl (v := .slice px4 256 pc4) (fun W hW => Agg.run_ld (t := 22) (by decide +kernel) rfl rfl ((hW.2.cell 0).trans rfl)) HZ.out ?_
        refine Agg.heldTake (i := 7) (by decide +kernel) rfl rfl rfl (fun W hW => Agg.run_fa fo_Rt_0 rfl (b := g18) (f := 0) rfl) HZ.out ?_
        simp only [List.set_cons_succ, List.set_cons_zero]
        refine Agg.heldCall Try.func11 rfl rfl (i := 5) (args := [.tmp 98]) (by decide +kernel) rfl rfl rfl rfl ((HGT.out y0 _ (dev_pages HDV.out HCM.out.len)).mono ?_)
        rintro e y1 ⟨rfl, hb1⟩
        replace HDV := Lib.hid (HDV.out.keep hb1)
        replace HVW := Lib.hid (HVW.out.keep hb1)
        replace HVI := Lib.hid (HVI.out.keep hb1)
        replace H18 := Lib.hid (H18.out.keep hb1)
        replace HB := Lib.hid (HB.out.trans (hb1.mono HB.out.size))
        replace HZ := Lib.hid (And.intro (HZ.out.1.keep hb1) (HZ.out.2.keep hb1))
        clear hb1
        refine ⟨_, rfl, HZ.out, ?_⟩
        simp only [List.set_cons_succ, List.set_cons_zero]
        refine Agg.heldTake (i := 6) (by decide +kernel) rfl rfl rfl (v := .int .u64 (st2 : Int)) (fun W hW => Agg.run_ar (st2 : Int) rfl rfl rfl (congrArg some HAD.out)) HZ.out ?_
        simp only [List.set_cons_succ, List.set_cons_zero]
        have hl18 := HL18.out
        have h18 := H18.out
        refine Agg.heldSt (.int .i64 sl) [.int .i64 sl] (f := 0) h18 rfl (by kernel_rfl) (by simp) (by simp [Value.oneCell']) (i := 8) (by decide +kernel) rfl rfl rfl rfl rfl rfl (fun y2 hb2 hg2 => ⟨⟨HZ.out.1.far' hg2 (by omega), HZ.out.2.far' hg2 (blk_ne HZ.out.2 h18 (by decide))⟩, ?_⟩)
        have e2 : spliced [.int .i64 isl, .int .u64 (ist : Int), .slice xi iL.length xci, .int .i64 ib] 0 [.int .i64 sl] = [.int .i64 sl, .int .u64 (ist : Int), .slice xi iL.length xci, .int .i64 ib] := rfl
        rw [e2] at hb2
        have HZ2 := Lib.hid (And.intro (HZ.out.1.far' hg2 (by omega)) (HZ.out.2.far' hg2 (blk_ne HZ.out.2 h18 (by decide))))
        simp only [List.set_cons_succ, List.set_cons_zero]
        refine Agg.heldOne (i := 9) (by decide +kernel) rfl rfl rfl (Agg.run_fa fo_Rt_1 rfl (b := g18) (f := 0) rfl) HZ2.out ?_
        simp only [List.set_cons_succ, List.set_cons_zero]
        refine Agg.heldSt (.int .u64 (st2 : Int)) [.int .u64 (st2 : Int)] (f := 1) hb2 rfl (by kernel_rfl) (by simp) (by simp [Value.oneCell']) (i := 10) (by decide +kernel) rfl rfl rfl rfl rfl rfl (fun y3 hb3 hg3 => ⟨⟨HZ2.out.1.far' hg3 (by omega), HZ2.out.2.far' hg3 (blk_ne HZ2.out.2 hb2 (by decide))⟩, ?_⟩)
        have e3 : spliced [.int .i64 sl, .int .u64 (ist : Int), .slice xi iL.length xci, .int .i64 ib] 1 [.int .u64 (st2 : Int)] = [.int .i64 sl, .int .u64 (st2 : Int), .slice xi iL.length xci, .int .i64 ib] := rfl
        rw [e3] at hb3
        have Y15 := Lib.hid (HZ2.out.1.far' hg3 (by omega))
        have Y11 := Lib.hid (HZ2.out.2.far' hg3 (blk_ne HZ2.out.2 hb2 (by decide)))
        have YD := Lib.hid (devO_far (devO_far HDV.out h18 (by decide) (by decide) hg2) hb2 (by decide) (by decide) hg3)
        have YW := Lib.hid (RtO.far (RtO.far HVW.out h18 (by decide) hg2) hb2 (by decide) hg3)
        have YI : Hid (RtO w.heap.size y3 (.agg #[.int .i64 sl, .int .u64 (st2 : Int), .slice xi iL.length xci, .int .i64 ib]) ⟨sl, st2, iL, ib⟩) := Lib.hid ⟨_, rfl, rtO_row (r := ⟨isl, ist, iL, ib⟩) (RtO.far (RtO.far HVI.out h18 (by decide) hg2) hb2 (by decide) hg3)⟩
        have hbe := HB.out.trans (grown_below hg2 HB.out.size (fun j hj => by cases hj; omega))
        have YB := Lib.hid (hbe.trans (grown_below hg3 hbe.size (fun j hj => by cases hj; omega)))
        have Y18 := Lib.hid hb3
        clear e2 e3 h18 hb2 hg2 hb3 hg3 hl18 hbe HZ HZ2 HDV HVW HVI H18 HB HAD HSUB
        have HB := YB
        refine Agg.heldDone (by decide +kernel) ?_
        obtain ⟨z, hz2, hz1, hz3, hz4⟩ := fuse_three z0
        have HFZ := Lib.hid (And.intro hz1 (And.intro hz3 hz4))
        have hma := and_15 m0
        have hm0 := Int.emod_nonneg m0 (show (16 : Int) ≠ 0 by decide)
        have hm1 := Int.emod_lt_of_pos m0 (show (0 : Int) < 16 by decide)
        obtain ⟨m, hm⟩ : ∃ m, m0 % 16 = m := ⟨_, rfl⟩
        rw [hm] at hma hm0 hm1
        have HM := Lib.hid hma
        have HMB := Lib.hid (And.intro hm0 hm1)
        have HZ2 := Lib.hid hz2
        have hlit := lit_of HCM.out.pow (z := z) (by omega)
        have HLT := Lib.hid (fun W v (h : DevR W v d2) => light_R (w := W) (v := v) (d := d2) HCM.out.good (by rw [HCM.out.cache]; decide) h (z : Int))
        rw [hlit.1] at HLT
        dsimp only at HLT
        have hpc := put_cut HCM.out (r := ⟨sl, st2, iL, ib⟩) hz2
        have hgL := fz_good HCM.out.good (z : Int)
        have hcL : (fzD d2 z).cache.length ≤ 10000 := by show d2.cache.length ≤ 10000; rw [HCM.out.cache]; decide
        obtain ⟨LD, hLD⟩ : ∃ D, fzD d2 z = D := ⟨_, rfl⟩
        rw [hLD] at HLT hpc hgL hcL
        obtain ⟨⟨e3, D3⟩, hp⟩ : ∃ x, putRt LD ⟨sl, st2, iL, ib⟩ = x := ⟨_, rfl⟩
        have HPT := Lib.hid (fun W u v h1 h2 => rtPut_any LD ⟨sl, st2, iL, ib⟩ u v W hgL hcL h1 h2 HWI.out e3 D3 hp)
        have HCK := Lib.hid (fun W v h => rtCheck_any ⟨sl, st2, iL, ib⟩ v W h HWI.out)
        obtain ⟨qi, hqi⟩ : ∃ q, rightB ⟨sl, st2, iL, ib⟩ = q := ⟨_, rfl⟩
        rw [hqi] at HCK hpc
        have HPC := Lib.hid (hpc.symm.trans hp)
        have HQI := Lib.hid hqi
        clear hz2 hz1 hz3 hz4 hma hm hm0 hm1 hlit hpc hgL hcL hLD hp hqi
        go_upto_region 22 with (fail)
        refine Agg.listR 6 (by kernel_rfl) ?_
        simp only [List.take_succ_cons, List.take_zero, List.drop_succ_cons, List.drop_zero]
        refine Agg.chMove rfl rfl rfl rfl ?_
        refine Agg.chInt (z0 % 18446744073709551616) HFZ.out.1 (by kernel_rfl) Try.underlying45 rfl rfl rfl rfl ?_
        refine Agg.chRem (z : Int) rfl rfl rfl (by decide) HFZ.out.2.1 rfl rfl ?_
        refine Agg.chInt (z : Int) HFZ.out.2.2 (by kernel_rfl) Try.underlying3 rfl rfl rfl rfl ?_
        refine Agg.chMove rfl rfl rfl rfl ?_
        refine Agg.chBin (v := .int .i64 m) rfl rfl rfl rfl rfl (fun W => rfl) (fun W => run_and64 _ m0 15 m HM.out W) ?_
        refine Agg.chEnd ?_
        intro vs w111 hb _
        simp only [List.reverse, List.reverseAux, Agg.fill, List.set_cons_succ, List.set_cons_zero]
        replace HB := Lib.hid (HB.out.trans (hb.mono HB.out.size))
        replace Y15 := Lib.hid (Y15.out.keep hb)
        replace Y11 := Lib.hid (Y11.out.keep hb)
        replace YD := Lib.hid (YD.out.keep hb)
        replace YW := Lib.hid (YW.out.keep hb)
        replace YI := Lib.hid (YI.out.keep hb)
        replace Y18 := Lib.hid (Y18.out.keep hb)
        clear hb
        have h11 := Y11.out
        have hsz := HB.out.size
        go_wp2_with (refine Agg.gLoadB 4 h11 rfl rfl rfl rfl (by decide +kernel) ?_; simp only [Act.put, List.setIfInBounds_toArray, List.set_cons_succ, List.set_cons_zero])
        clear h11
        refine (HLT.out w111 _ YD.out.read).mono ?_
        rintro e w112 ⟨v, rfl, hv, hb⟩
        replace HB := Lib.hid (HB.out.trans (hb.mono HB.out.size))
        replace Y15 := Lib.hid (Y15.out.keep hb)
        replace Y11 := Lib.hid (Y11.out.keep hb)
        replace YD := Lib.hid (YD.out.keep hb)
        replace YW := Lib.hid (YW.out.keep hb)
        replace YI := Lib.hid (YI.out.keep hb)
        replace Y18 := Lib.hid (Y18.out.keep hb)
        clear hb
        have HVL := Lib.hid hv.read
        obtain ⟨pxL, pcL, cxL, ccL, rfl⟩ := HVL.out.shape
        clear hv hsz HLT
        go_upto_region 24 with (first
          | (refine Agg.allocRow 30 #[.slice none 0 0, .slice none 0 0, .int .i64 0, .bool false] rfl rfl (by kernel_rfl) ?_; simp only [Act.put, List.setIfInBounds_toArray, List.set_cons_succ, List.set_cons_zero])
          | (refine Agg.gStoreNew 4 [.slice pxL LD.pages.length pcL, .slice cxL LD.cache.length ccL, .int .i64 LD.fuse, .bool LD.off] rfl rfl rfl rfl rfl rfl (by decide +kernel) rfl rfl (by simp [Value.oneCell']) ?_; simp only [Act.put]))
        refine Agg.wp_at fun w113 hw113 => ?_
        have hb : Below w112.heap.size w112 w113 := by rw [hw113.out]; repeat (first | exact Below.refl _ _ | refine Agg.bel_drew ?_ | refine Agg.bel_alloc ?_ _)
        replace HB := Lib.hid (HB.out.trans (hb.mono HB.out.size))
        replace Y15 := Lib.hid (Y15.out.keep hb)
        replace YW := Lib.hid (YW.out.keep hb)
        replace YI := Lib.hid (YI.out.keep hb)
        replace Y18 := Lib.hid (Y18.out.keep hb)
        replace HVL := Lib.hid (HVL.out.keep hb)
        clear hb
        have H19 : Hid (Blk w113 w112.heap.size 30 [.slice pxL LD.pages.length pcL, .slice cxL LD.cache.length ccL, .int .i64 LD.fuse, .bool LD.off]) := by show Blk _ _ _ _; rw [hw113.out]; exact Blk.new w112 30 #[.slice pxL LD.pages.length pcL, .slice cxL LD.cache.length ccL, .int .i64 LD.fuse, .bool LD.off]
        clear hw113
        generalize w112.heap.size = g19 at *
        have h19 := H19.out
        have h18 := Y18.out
        go_wp2_with (first
          | (refine Agg.gLoadB 4 h19 rfl rfl rfl rfl (by decide +kernel) ?_; simp only [Act.put, List.setIfInBounds_toArray, List.set_cons_succ, List.set_cons_zero])
          | (refine Agg.gLoadB 4 h18 rfl rfl rfl rfl (by decide +kernel) ?_; simp only [Act.put, List.setIfInBounds_toArray, List.set_cons_succ, List.set_cons_zero]))
        clear h19 h18
        refine (HPT.out w113 _ _ HVL.out YI.out.read).mono ?_
        rintro e w114 ⟨u, rfl, hu, hb⟩
        replace HB := Lib.hid (HB.out.trans (hb.mono HB.out.size))
        replace Y15 := Lib.hid (Y15.out.keep hb)
        replace YW := Lib.hid (YW.out.keep hb)
        replace YI := Lib.hid (YI.out.keep hb)
        replace Y18 := Lib.hid (Y18.out.keep hb)
        replace HVL := Lib.hid (HVL.out.keep hb)
        replace H19 := Lib.hid (H19.out.keep hb)
        clear hb
        have HU := Lib.hid hu.read
        obtain ⟨px3, pc3, cx3, cc3, rfl⟩ := hu.read.shape
        clear hu HPT
        go_upto_region 27 with (first
          | (refine Agg.allocRow 30 #[.slice none 0 0, .slice none 0 0, .int .i64 0, .bool false] rfl rfl (by kernel_rfl) ?_; simp only [Act.put, List.setIfInBounds_toArray, List.set_cons_succ, List.set_cons_zero])
          | (refine Agg.gStoreNew 4 [.slice px3 D3.pages.length pc3, .slice cx3 D3.cache.length cc3, .int .i64 D3.fuse, .bool D3.off] rfl rfl rfl rfl rfl rfl (by decide +kernel) rfl rfl (by simp [Value.oneCell']) ?_; simp only [Act.put]))
        refine Agg.wp_at fun w115 hw115 => ?_
        have hb : Below w114.heap.size w114 w115 := by rw [hw115.out]; repeat (first | exact Below.refl _ _ | refine Agg.bel_drew ?_ | refine Agg.bel_alloc ?_ _)
        replace HB := Lib.hid (HB.out.trans (hb.mono HB.out.size))
        replace Y15 := Lib.hid (Y15.out.keep hb)
        replace YW := Lib.hid (YW.out.keep hb)
        replace YI := Lib.hid (YI.out.keep hb)
        replace Y18 := Lib.hid (Y18.out.keep hb)
        replace HU := Lib.hid (HU.out.keep hb)
        clear hb
        have H20 : Hid (Blk w115 w114.heap.size 30 [.slice px3 D3.pages.length pc3, .slice cx3 D3.cache.length cc3, .int .i64 D3.fuse, .bool D3.off]) := by show Blk _ _ _ _; rw [hw115.out]; exact Blk.new w114 30 #[.slice px3 D3.pages.length pc3, .slice cx3 D3.cache.length cc3, .int .i64 D3.fuse, .bool D3.off]
        clear hw115
        generalize w114.heap.size = g20 at *
        rcases (show qi = false ∨ qi = true by cases qi <;> simp) with rfl | rfl
        · obtain rfl : 330 = e3 := congrArg Prod.fst HPC.out
          refine Agg.listR 6 (by kernel_rfl) ?_
          simp only [List.take_succ_cons, List.take_zero, List.drop_succ_cons, List.drop_zero]
          refine Agg.chMove rfl rfl rfl rfl ?_
          refine Agg.chNe true (by decide) rfl rfl rfl rfl rfl ?_
          refine Agg.chMove rfl rfl rfl rfl ?_
          refine Agg.chMove rfl rfl rfl rfl ?_
          refine Agg.chNe true (by decide) rfl rfl rfl rfl rfl ?_
          refine Agg.chPick rfl rfl rfl rfl rfl ?_
          refine Agg.chEnd ?_
          intro vs w116 hb _
          show Exit.then _ _ Exit.normal _ _
          simp only [List.reverse, List.reverseAux, Agg.fill, List.set_cons_succ, List.set_cons_zero]
          replace HB := Lib.hid (HB.out.trans (hb.mono HB.out.size))
          replace Y15 := Lib.hid (Y15.out.keep hb)
          replace YW := Lib.hid (YW.out.keep hb)
          replace YI := Lib.hid (YI.out.keep hb)
          replace Y18 := Lib.hid (Y18.out.keep hb)
          replace HU := Lib.hid (HU.out.keep hb)
          replace H20 := Lib.hid (H20.out.keep hb)
          clear hb
          go_upto_region 28 with (fail)
          refine Agg.listR 8 (by kernel_rfl) ?_
          simp only [List.take_succ_cons, List.take_zero, List.drop_succ_cons, List.drop_zero]
          refine Agg.chMove rfl rfl rfl rfl ?_
          refine Agg.chEq true (by decide) rfl rfl rfl rfl rfl ?_
          refine Agg.chMove rfl rfl rfl rfl ?_
          refine Agg.chRowB 4 Y18.out rfl (by decide +kernel) rfl rfl rfl rfl ?_
          refine Agg.chCall Try.func15 rfl (by kernel_rfl) rfl rfl rfl rfl (fun W hb => HCK.out W _ (RtO.keep YI.out hb).read) ?_
          refine Agg.chMove rfl rfl rfl rfl ?_
          refine Agg.chEq true (by decide) rfl rfl rfl rfl rfl ?_
          refine Agg.chPick rfl rfl rfl rfl rfl ?_
          refine Agg.chEnd ?_
          intro vs w117 hb hf
          simp only [List.reverse, List.reverseAux, Agg.Facts] at hf
          obtain _ := hf
          simp only [List.reverse, List.reverseAux, Agg.fill, List.set_cons_succ, List.set_cons_zero]
          have hbe := HB.out.trans (hb.mono HB.out.size)
          go_wp2_with fail
          go_ret
          exact ⟨rfl, hbe⟩
        · have he3 : (if z = 2 then (0 : Int) else 10) = e3 := congrArg Prod.fst HPC.out
          have hD3 : cutD d2 ⟨sl, st2, iL, ib⟩ z = D3 := congrArg Prod.snd HPC.out
          have hri := (right_iff _).1 HQI.out
          obtain ⟨hg3, _, hc3⟩ := cut_good HCM.out hri (z := z)
          obtain ⟨t1, t2, t3, t4, t5⟩ := turns HS.out hri (by show sl = _; rw [HSL.out]) (by show st2 = _; rw [HG.out, HST.out]) HZ2.out HMB.out.1 HMB.out.2
          rw [hD3] at hg3 hc3 t1
          obtain ⟨Bk, hBk⟩ : ∃ D, backD d2 ⟨sl, st2, iL, ib⟩ z m = D := ⟨_, rfl⟩
          rw [hBk] at t1 t2 t3 t4 t5
          obtain ⟨X, hX⟩ : ∃ X, (if z = 2 ∨ z = 1 ∧ m = 15 then (⟨sl, st2, iL, ib⟩ : Rt) else was) = X := ⟨_, rfl⟩
          rw [hX] at t5
          have HX := Lib.hid hX
          have HCR := Lib.hid (fun W v mv (h : DevR W v D3) (hm : Ints W mv [m]) => crash_R (w := W) (v := v) (d := D3) hg3 (by omega) h (ms := [m]) (mv := mv) (by show (1 : Nat) ≤ 1000000; decide) hm)
          rw [t1] at HCR
          dsimp only at HCR
          have HFD := Lib.hid (fun W v h => find_any Bk v W t3 (by rw [t4]; decide) h X 0 (by rw [pow_why t2, if_neg (by decide), t5]; rfl) (by rw [pow_why t2, if_neg (by decide), t5]; rfl))
          obtain ⟨qz, hqz⟩ : ∃ q, decide (z = 2) = q := ⟨_, rfl⟩
          have HQ1 : Hid ((e3 == 0) = qz) := Lib.hid (by rw [← he3, ← hqz]; by_cases h : z = 2 <;> simp [h])
          have HQ2 : Hid (((z : Int) == 2) = qz) := Lib.hid (by
            rw [← hqz]
            by_cases h : z = 2
            · simp [h]
            · rw [decide_eq_false h]; exact beq_false_of_ne (by omega))
          have HE3 := Lib.hid he3
          clear he3 hD3 hri hg3 hc3 t1 t2 t3 t4 t5 hBk hX hqz
          obtain ⟨wD, hwD⟩ : ∃ x, x = w115 := ⟨_, rfl⟩
          subst hwD
          go_cut [128] from 123 to 128 (fun s wx => s = .bool false ∧ wD = wx)
          case first =>
            by_cases h : z = 2
            · have h0 := HE3.out
              rw [if_pos h] at h0
              subst h0
              clear h
              go_wp2_with fail
              go_meet
              exact ⟨rfl, rfl⟩
            · have h0 := HE3.out
              rw [if_neg h] at h0
              subst h0
              clear h
              go_wp2_with fail
              go_meet
              exact ⟨rfl, rfl⟩
          case rest =>
            obtain ⟨rfl, rfl⟩ := hcut
            go_upto_region 29 with (fail)
            refine Agg.listR 5 (by kernel_rfl) ?_
            simp only [List.take_succ_cons, List.take_zero, List.drop_succ_cons, List.drop_zero]
            refine Agg.chMove rfl rfl rfl rfl ?_
            refine Agg.chEq (qz) HQ1.out rfl rfl rfl rfl rfl ?_
            refine Agg.chMove rfl rfl rfl rfl ?_
            refine Agg.chEq (qz) HQ2.out rfl rfl rfl rfl rfl ?_
            refine Agg.chNeB false Try.underlying4 (by simp) rfl rfl rfl rfl rfl ?_
            refine Agg.chEnd ?_
            intro vs w118 hb _
            show Exit.then _ _ Exit.normal _ _
            simp only [List.reverse, List.reverseAux, Agg.fill, List.set_cons_succ, List.set_cons_zero]
            replace HB := Lib.hid (HB.out.trans (hb.mono HB.out.size))
            replace Y15 := Lib.hid (Y15.out.keep hb)
            replace YW := Lib.hid (YW.out.keep hb)
            replace YI := Lib.hid (YI.out.keep hb)
            replace Y18 := Lib.hid (Y18.out.keep hb)
            replace HU := Lib.hid (HU.out.keep hb)
            replace H20 := Lib.hid (H20.out.keep hb)
            clear hb
            go_upto_region 31 with (fail)
            refine Agg.listR 8 (by kernel_rfl) ?_
            simp only [List.take_succ_cons, List.take_zero, List.drop_succ_cons, List.drop_zero]
            refine Agg.chRowB 4 H20.out rfl (by decide +kernel) rfl rfl rfl rfl ?_
            refine Agg.chMove rfl rfl rfl rfl ?_
            refine Agg.chBuildSlice (e := 3) #[.int .i64 m] rfl rfl rfl rfl (fun W => lit_int m W) ?_
            refine Agg.chCall_po Try.func17 rfl (by kernel_rfl) (.op (PutT w118.heap.size 0 Bk)) (PutT.stable _ _ _) 2 rfl rfl rfl rfl rfl rfl rfl (fun u W hb hg => Calls.mono (HCR.out W _ u (HU.out.keep hb) (int_one hg)) (fun e w2 h => by obtain ⟨u, rfl, h1, h2⟩ := h; exact ⟨_, rfl, ⟨u, rfl, h1.base hb.size⟩, h2⟩)) ?_
            refine Agg.chMoveO 3 (PutT.stable _ _ _) rfl rfl rfl rfl rfl rfl ?_
            refine Agg.chExtractO 4 (DevPV.stable _ _) PutT.c0 rfl rfl rfl rfl rfl rfl ?_
            refine Agg.chExtractO 4 (EqV.stable _) PutT.c1 rfl rfl rfl rfl rfl rfl ?_
            refine Agg.chAlloc #[.slice none 0 0, .slice none 0 0, .int .i64 0, .bool false] rfl (by kernel_rfl) rfl rfl ?_
            refine Agg.chEnd ?_
            intro vs w119 hb hf
            simp only [List.reverse, List.reverseAux, Agg.Facts] at hf
            obtain ⟨_, _, _, h5, hv6, ⟨g21, hv7, hs7, hk7⟩, _⟩ := hf
            simp only [List.reverse, List.reverseAux, Agg.fill, List.set_cons_succ, List.set_cons_zero, hv6, hv7]
            have h5' : DevO _ _ _ _ := h5
            obtain ⟨px5, pc5, cx5, cc5, hv5⟩ := h5'.read.shape
            rw [hv5] at h5'
            simp only [hv5]
            go_upto_region 32 with (refine Agg.gStoreB 4 [.slice px5 Bk.pages.length pc5, .slice cx5 Bk.cache.length cc5, .int .i64 Bk.fuse, .bool Bk.off] hk7 rfl rfl rfl rfl rfl (by decide +kernel) rfl rfl (by simp [Value.oneCell']) (fun w60 hb60 hg60 => ?_))
            have hbk := hb.trans (grown_below hg60 hb.size (fun k e => by cases e; exact hs7))
            have HVB := Lib.hid (devO_far h5' hk7 (by decide) (by decide) hg60).read
            have H21 := Lib.hid hb60
            clear hb h5 h5' hv6 hv7 hv5 HU H20 HCR
            have hb := hbk
            replace HB := Lib.hid (HB.out.trans (hb.mono HB.out.size))
            replace Y15 := Lib.hid (Y15.out.keep hb)
            replace YW := Lib.hid (YW.out.keep hb)
            replace YI := Lib.hid (YI.out.keep hb)
            replace Y18 := Lib.hid (Y18.out.keep hb)
            clear hb
            clear hbk hb60 hg60 hk7 hs7
            have h21 := H21.out
            go_wp2_with (refine Agg.gLoadB 4 h21 rfl rfl rfl rfl (by decide +kernel) ?_; simp only [Act.put, List.setIfInBounds_toArray, List.set_cons_succ, List.set_cons_zero])
            clear h21
            refine (HFD.out w60 _ HVB.out).mono ?_
            rintro e w120 ⟨v, rfl, hv, hb⟩
            replace HB := Lib.hid (HB.out.trans (hb.mono HB.out.size))
            replace Y15 := Lib.hid (Y15.out.keep hb)
            replace YW := Lib.hid (YW.out.keep hb)
            replace YI := Lib.hid (YI.out.keep hb)
            replace Y18 := Lib.hid (Y18.out.keep hb)
            replace HVB := Lib.hid (HVB.out.keep hb)
            replace H21 := Lib.hid (H21.out.keep hb)
            clear hb
            have HVX := Lib.hid hv.read
            obtain ⟨slx, hvv, hvo⟩ := hv
            obtain ⟨xx, xxc, rfl, _, _⟩ := (ownSl hvo).shape
            unfold rtV at hvv
            subst hvv
            clear hvo HFD
            go_upto_region 33 with (first
              | (refine Agg.allocRow 26 #[.int .i64 0, .int .u64 0, .slice none 0 0, .int .i64 0] rfl rfl (by kernel_rfl) ?_; simp only [Act.put, List.setIfInBounds_toArray, List.set_cons_succ, List.set_cons_zero])
              | (refine Agg.gStoreNew 4 [.int .i64 X.slot, .int .u64 (X.stamp : Int), .slice xx X.pages.length xxc, .int .i64 X.bytes] rfl rfl rfl rfl rfl rfl (by decide +kernel) rfl rfl (by simp [Value.oneCell']) ?_; simp only [Act.put]))
            refine Agg.wp_at fun w121 hw121 => ?_
            have hb : Below w120.heap.size w120 w121 := by rw [hw121.out]; repeat (first | exact Below.refl _ _ | refine Agg.bel_drew ?_ | refine Agg.bel_alloc ?_ _)
            replace HB := Lib.hid (HB.out.trans (hb.mono HB.out.size))
            replace Y15 := Lib.hid (Y15.out.keep hb)
            replace YW := Lib.hid (YW.out.keep hb)
            replace YI := Lib.hid (YI.out.keep hb)
            replace Y18 := Lib.hid (Y18.out.keep hb)
            replace HVX := Lib.hid (HVX.out.keep hb)
            clear hb
            have H23 : Hid (Blk w121 w120.heap.size 26 [.int .i64 X.slot, .int .u64 (X.stamp : Int), .slice xx X.pages.length xxc, .int .i64 X.bytes]) := by show Blk _ _ _ _; rw [hw121.out]; exact Blk.new w120 26 #[.int .i64 X.slot, .int .u64 (X.stamp : Int), .slice xx X.pages.length xxc, .int .i64 X.bytes]
            clear hw121
            generalize w120.heap.size = g23 at *
            go_upto_region 35 with (fail)
            by_cases hzz : z = 2
            · skip
              have hx : X = ⟨sl, st2, iL, ib⟩ := by rw [← HX.out]; exact if_pos (.inl hzz)
              have HSM := Lib.hid (fun W a b h1 h2 => sameR_any X ⟨sl, st2, iL, ib⟩ a b W h1 h2 true (by rw [hx]; simp))
              clear hx
              have q1 : ((z : Int) == 2) = true := by simp [hzz]
              refine Agg.listR 10 (by kernel_rfl) ?_
              simp only [List.take_succ_cons, List.take_zero, List.drop_succ_cons, List.drop_zero]
              refine Agg.chMove rfl rfl rfl rfl ?_
              refine Agg.chEq true q1 rfl rfl rfl rfl rfl ?_
              refine Agg.chMove rfl rfl rfl rfl ?_
              refine Agg.chSkip rfl rfl ?_
              refine Agg.chSkip rfl rfl ?_
              refine Agg.chSkip rfl rfl ?_
              refine Agg.chSkip rfl rfl ?_
              refine Agg.chSkip rfl rfl ?_
              refine Agg.chSkip rfl rfl ?_
              refine Agg.chPick rfl rfl rfl rfl rfl ?_
              refine Agg.chEnd ?_
              intro vs w122 hb _
              show Exit.then _ _ Exit.normal _ _
              simp only [List.reverse, List.reverseAux, Agg.fill, List.set_cons_succ, List.set_cons_zero]
              replace HB := Lib.hid (HB.out.trans (hb.mono HB.out.size))
              replace Y15 := Lib.hid (Y15.out.keep hb)
              replace YW := Lib.hid (YW.out.keep hb)
              replace YI := Lib.hid (YI.out.keep hb)
              replace Y18 := Lib.hid (Y18.out.keep hb)
              replace HVX := Lib.hid (HVX.out.keep hb)
              replace H23 := Lib.hid (H23.out.keep hb)
              clear hb
              clear q1
              go_upto_region 36 with (fail)
              refine Agg.listR 3 (by kernel_rfl) ?_
              simp only [List.take_succ_cons, List.take_zero, List.drop_succ_cons, List.drop_zero]
              refine Agg.chRowB 4 H23.out rfl (by decide +kernel) rfl rfl rfl rfl ?_
              refine Agg.chRowB 4 Y18.out rfl (by decide +kernel) rfl rfl rfl rfl ?_
              refine Agg.chCall Try.func18 rfl (by kernel_rfl) rfl rfl rfl rfl (fun W hb => HSM.out W _ _ (RtR.keep HVX.out hb) (RtO.keep YI.out hb).read) ?_
              refine Agg.chEnd ?_
              intro vs w123 hb hf
              simp only [List.reverse, List.reverseAux, Agg.Facts] at hf
              obtain _ := hf
              simp only [List.reverse, List.reverseAux, Agg.fill, List.set_cons_succ, List.set_cons_zero]
              have hbe := HB.out.trans (hb.mono HB.out.size)
              go_wp2_with fail
              go_ret
              exact ⟨rfl, hbe⟩
            · skip
              by_cases hz1 : z = 1
              · skip
                by_cases hm15 : m = 15
                · skip
                  have hx : X = ⟨sl, st2, iL, ib⟩ := by rw [← HX.out]; exact if_pos (.inr ⟨hz1, hm15⟩)
                  have HSM := Lib.hid (fun W a b h1 h2 => sameR_any X ⟨sl, st2, iL, ib⟩ a b W h1 h2 true (by rw [hx]; simp))
                  clear hx
                  have q1 : ((z : Int) == 2) = false := beq_false_of_ne (by omega)
                  have q2 : ((z : Int) == 1) = true := by simp [hz1]
                  have q3 : (m == 15) = true := by simp [hm15]
                  refine Agg.listR 10 (by kernel_rfl) ?_
                  simp only [List.take_succ_cons, List.take_zero, List.drop_succ_cons, List.drop_zero]
                  refine Agg.chMove rfl rfl rfl rfl ?_
                  refine Agg.chEq false q1 rfl rfl rfl rfl rfl ?_
                  refine Agg.chMove rfl rfl rfl rfl ?_
                  refine Agg.chMove rfl rfl rfl rfl ?_
                  refine Agg.chEq true q2 rfl rfl rfl rfl rfl ?_
                  refine Agg.chMove rfl rfl rfl rfl ?_
                  refine Agg.chMove rfl rfl rfl rfl ?_
                  refine Agg.chEq true q3 rfl rfl rfl rfl rfl ?_
                  refine Agg.chPick rfl rfl rfl rfl rfl ?_
                  refine Agg.chPick rfl rfl rfl rfl rfl ?_
                  refine Agg.chEnd ?_
                  intro vs w124 hb _
                  show Exit.then _ _ Exit.normal _ _
                  simp only [List.reverse, List.reverseAux, Agg.fill, List.set_cons_succ, List.set_cons_zero]
                  replace HB := Lib.hid (HB.out.trans (hb.mono HB.out.size))
                  replace Y15 := Lib.hid (Y15.out.keep hb)
                  replace YW := Lib.hid (YW.out.keep hb)
                  replace YI := Lib.hid (YI.out.keep hb)
                  replace Y18 := Lib.hid (Y18.out.keep hb)
                  replace HVX := Lib.hid (HVX.out.keep hb)
                  replace H23 := Lib.hid (H23.out.keep hb)
                  clear hb
                  clear q1 q2 q3
                  go_upto_region 36 with (fail)
                  refine Agg.listR 3 (by kernel_rfl) ?_
                  simp only [List.take_succ_cons, List.take_zero, List.drop_succ_cons, List.drop_zero]
                  refine Agg.chRowB 4 H23.out rfl (by decide +kernel) rfl rfl rfl rfl ?_
                  refine Agg.chRowB 4 Y18.out rfl (by decide +kernel) rfl rfl rfl rfl ?_
                  refine Agg.chCall Try.func18 rfl (by kernel_rfl) rfl rfl rfl rfl (fun W hb => HSM.out W _ _ (RtR.keep HVX.out hb) (RtO.keep YI.out hb).read) ?_
                  refine Agg.chEnd ?_
                  intro vs w125 hb hf
                  simp only [List.reverse, List.reverseAux, Agg.Facts] at hf
                  obtain _ := hf
                  simp only [List.reverse, List.reverseAux, Agg.fill, List.set_cons_succ, List.set_cons_zero]
                  have hbe := HB.out.trans (hb.mono HB.out.size)
                  go_wp2_with fail
                  go_ret
                  exact ⟨rfl, hbe⟩
                · skip
                  have hx : X = was := by rw [← HX.out]; exact if_neg (by omega)
                  have HSM := Lib.hid (fun W a b h1 h2 => sameR_any X was a b W h1 h2 true (by rw [hx]; simp))
                  clear hx
                  have q1 : ((z : Int) == 2) = false := beq_false_of_ne (by omega)
                  have q2 : ((z : Int) == 1) = true := by simp [hz1]
                  have q3 : (m == 15) = false := beq_false_of_ne hm15
                  refine Agg.listR 10 (by kernel_rfl) ?_
                  simp only [List.take_succ_cons, List.take_zero, List.drop_succ_cons, List.drop_zero]
                  refine Agg.chMove rfl rfl rfl rfl ?_
                  refine Agg.chEq false q1 rfl rfl rfl rfl rfl ?_
                  refine Agg.chMove rfl rfl rfl rfl ?_
                  refine Agg.chMove rfl rfl rfl rfl ?_
                  refine Agg.chEq true q2 rfl rfl rfl rfl rfl ?_
                  refine Agg.chMove rfl rfl rfl rfl ?_
                  refine Agg.chMove rfl rfl rfl rfl ?_
                  refine Agg.chEq false q3 rfl rfl rfl rfl rfl ?_
                  refine Agg.chPick rfl rfl rfl rfl rfl ?_
                  refine Agg.chPick rfl rfl rfl rfl rfl ?_
                  refine Agg.chEnd ?_
                  intro vs w126 hb _
                  show Exit.then _ _ Exit.normal _ _
                  simp only [List.reverse, List.reverseAux, Agg.fill, List.set_cons_succ, List.set_cons_zero]
                  replace HB := Lib.hid (HB.out.trans (hb.mono HB.out.size))
                  replace Y15 := Lib.hid (Y15.out.keep hb)
                  replace YW := Lib.hid (YW.out.keep hb)
                  replace YI := Lib.hid (YI.out.keep hb)
                  replace Y18 := Lib.hid (Y18.out.keep hb)
                  replace HVX := Lib.hid (HVX.out.keep hb)
                  replace H23 := Lib.hid (H23.out.keep hb)
                  clear hb
                  clear q1 q2 q3
                  go_upto_region 37 with (fail)
                  refine Agg.listR 3 (by kernel_rfl) ?_
                  simp only [List.take_succ_cons, List.take_zero, List.drop_succ_cons, List.drop_zero]
                  refine Agg.chRowB 4 H23.out rfl (by decide +kernel) rfl rfl rfl rfl ?_
                  refine Agg.chRowB 4 Y15.out rfl (by decide +kernel) rfl rfl rfl rfl ?_
                  refine Agg.chCall Try.func18 rfl (by kernel_rfl) rfl rfl rfl rfl (fun W hb => HSM.out W _ _ (RtR.keep HVX.out hb) (RtO.keep YW.out hb).read) ?_
                  refine Agg.chEnd ?_
                  intro vs w127 hb hf
                  simp only [List.reverse, List.reverseAux, Agg.Facts] at hf
                  obtain _ := hf
                  simp only [List.reverse, List.reverseAux, Agg.fill, List.set_cons_succ, List.set_cons_zero]
                  have hbe := HB.out.trans (hb.mono HB.out.size)
                  go_wp2_with fail
                  go_ret
                  exact ⟨rfl, hbe⟩
              · skip
                have hx : X = was := by rw [← HX.out]; exact if_neg (by omega)
                have HSM := Lib.hid (fun W a b h1 h2 => sameR_any X was a b W h1 h2 true (by rw [hx]; simp))
                clear hx
                have q1 : ((z : Int) == 2) = false := beq_false_of_ne (by omega)
                have q2 : ((z : Int) == 1) = false := beq_false_of_ne (by omega)
                refine Agg.listR 10 (by kernel_rfl) ?_
                simp only [List.take_succ_cons, List.take_zero, List.drop_succ_cons, List.drop_zero]
                refine Agg.chMove rfl rfl rfl rfl ?_
                refine Agg.chEq false q1 rfl rfl rfl rfl rfl ?_
                refine Agg.chMove rfl rfl rfl rfl ?_
                refine Agg.chMove rfl rfl rfl rfl ?_
                refine Agg.chEq false q2 rfl rfl rfl rfl rfl ?_
                refine Agg.chMove rfl rfl rfl rfl ?_
                refine Agg.chSkip rfl rfl ?_
                refine Agg.chSkip rfl rfl ?_
                refine Agg.chPick rfl rfl rfl rfl rfl ?_
                refine Agg.chPick rfl rfl rfl rfl rfl ?_
                refine Agg.chEnd ?_
                intro vs w128 hb _
                show Exit.then _ _ Exit.normal _ _
                simp only [List.reverse, List.reverseAux, Agg.fill, List.set_cons_succ, List.set_cons_zero]
                replace HB := Lib.hid (HB.out.trans (hb.mono HB.out.size))
                replace Y15 := Lib.hid (Y15.out.keep hb)
                replace YW := Lib.hid (YW.out.keep hb)
                replace YI := Lib.hid (YI.out.keep hb)
                replace Y18 := Lib.hid (Y18.out.keep hb)
                replace HVX := Lib.hid (HVX.out.keep hb)
                replace H23 := Lib.hid (H23.out.keep hb)
                clear hb
                clear q1 q2
                go_upto_region 37 with (fail)
                refine Agg.listR 3 (by kernel_rfl) ?_
                simp only [List.take_succ_cons, List.take_zero, List.drop_succ_cons, List.drop_zero]
                refine Agg.chRowB 4 H23.out rfl (by decide +kernel) rfl rfl rfl rfl ?_
                refine Agg.chRowB 4 Y15.out rfl (by decide +kernel) rfl rfl rfl rfl ?_
                refine Agg.chCall Try.func18 rfl (by kernel_rfl) rfl rfl rfl rfl (fun W hb => HSM.out W _ _ (RtR.keep HVX.out hb) (RtO.keep YW.out hb).read) ?_
                refine Agg.chEnd ?_
                intro vs w129 hb hf
                simp only [List.reverse, List.reverseAux, Agg.Facts] at hf
                obtain _ := hf
                simp only [List.reverse, List.reverseAux, Agg.fill, List.set_cons_succ, List.set_cons_zero]
                have hbe := HB.out.trans (hb.mono HB.out.size)
                go_wp2_with fail
                go_ret
                exact ⟨rfl, hbe⟩
theorem RootTurns_walk (v0 : Value) (f0 : Nat) (c1 : Array Value) (f1 : Nat) (c2 : Array Value) (f2 : Nat) (n3 n4 : Int) (w : World) (g0 : Agg.Good Try.prog w f0 22 [v0]) (g1 : Agg.Good Try.prog w f1 26 c1.toList) (g2 : Agg.Good Try.prog w f2 26 c2.toList) (_w3 : (Lit.int .i64 n3).wf = true) (_w4 : (Lit.int .i64 n4).wf = true) :
    Calls Try.prog 3 #[v0, .agg c1, .agg c2, .int .i64 n3, .int .i64 n4] w fun e w' => e = .returned (.bool true) ∧ Below w.heap.size w w' := by
  obtain ⟨old, h1, h2, h3⟩ := good_blks g0
  obtain ⟨r1, hR1, hG1⟩ := good_rt g1
  obtain ⟨r2, hR2, hG2⟩ := good_rt g2
  exact turns_walk old r1 r2 n3 n4 v0 _ _ w h2 h3 h1 hR1 hG1 hR2 hG2
end Go.Proofs.Ytjnnnnolikbjcaa
