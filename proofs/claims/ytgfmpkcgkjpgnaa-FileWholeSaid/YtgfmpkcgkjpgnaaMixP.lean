/-
  DEVICES: the document's Copy.
-/
import Derived.Test.YtgfmpkcgkjpgnaaChain3
import Derived.Test.YtgfmpkcgkjpgnaaGood
section
namespace Go.Proofs.Ytgfmpkcgkjpgnaa
open Go.ChangeShapes Go.WideShapes Go.ChangeAt Go.RowKit Agg Pg Dv

theorem bWne : 64 ≠ 88 := by decide
set_option maxHeartbeats 4000000 in
set_option maxRecDepth 100000 in
theorem copy_D (x y : Option Addr) (cap cm : Nat) (P : List (List Sec)) (l : List (Int × List Sec)) (z : Int) (q : Bool) (w : World) (hP : P.length ≤ 1000000) (hl : l.length ≤ 1000000) (hp : Pgs w (.slice x P.length cap) P) (hv : Wrs w (.slice y l.length cm) l) :
    Calls Try.prog 72 #[.agg #[.slice x P.length cap, .slice y l.length cm, .int .i64 z, .bool q]] w fun e w' => ∃ p c, e = .returned (.agg #[p, c, .int .i64 z, .bool q]) ∧ w'.ownsRow w.heap.size 64 132 p P.length (P.flatMap blkC) ∧ w'.ownsRow w.heap.size 88 133 c l.length (l.flatMap wrC) ∧ Below w.heap.size w w' := by
  have HP := Lib.hid hp
  have HV := Lib.hid hv
  have HPL := Lib.hid hP
  have HLL := Lib.hid hl
  clear hv hp hP hl
  have HB := Lib.hid (Below.refl w.heap.size w)
  go_enter Try.func72, Try.ntmps72
  go_upto_region 1 with (fail)
  refine Agg.wp_at fun w1 hw1 => ?_
  have hb : Below w.heap.size w w1 := by rw [hw1.out]; repeat (first | exact Below.refl _ _ | refine Agg.bel_drew ?_ | refine Agg.bel_alloc ?_ _)
  replace HB := Lib.hid (HB.out.trans (hb.mono HB.out.size))
  replace HP := Lib.hid (HP.out.keep hb)
  replace HV := Lib.hid (HV.out.keep hb)
  clear hb
  have H1 : Hid (Blk w1 w.heap.size 46 [.slice x P.length cap, .slice y l.length cm, .int .i64 z, .bool q]) := by show Blk _ _ _ _; rw [hw1.out]; exact (Blk.new w 46 #[.slice x P.length cap, .slice y l.length cm, .int .i64 z, .bool q]).al _
  have H2 : Hid (Blk w1 (w.heap.size + 1) 46 [.slice none 0 0, .slice none 0 0, .int .i64 0, .bool false]) := by show Blk _ _ _ _; rw [hw1.out]; exact Blk.newAt (w.alloc _) 46 #[.slice none 0 0, .slice none 0 0, .int .i64 0, .bool false] _ (by simp)
  clear hw1
  have HSZ := Lib.hid HB.out.size
  refine Agg.chainR 9 (by kernel_rfl) (by kernel_rfl) ?_
  simp only [List.take_succ_cons, List.take_zero, List.drop_succ_cons, List.drop_zero]
  refine Agg.chBuildSlice (e := 64) (ps := []) #[] rfl rfl rfl rfl (fun w => by kernel_rfl) ?_
  refine Agg.chFA fo_fo_Dev_0 rfl rfl rfl rfl ?_
  refine Agg.chLoadB H1.out (by decide +kernel) rfl rfl (by rfl) rfl rfl ?_
  refine Agg.chAppendNew tiBl 0 P.length (P.flatMap blkC) HP.out (pgs_one P) (by have := HPL.out; unfold maxLen; omega) (by have := HPL.out; omega) rfl rfl rfl rfl rfl rfl rfl ?_
  refine Agg.chBuildSlice (e := 88) (ps := []) #[] rfl rfl rfl rfl (fun w => by kernel_rfl) ?_
  refine Agg.chFA fo_fo_Dev_1 rfl rfl rfl rfl ?_
  refine Agg.chLoadB H1.out (by decide +kernel) rfl rfl (by rfl) rfl rfl ?_
  refine Agg.chAppendNew tiW 4 l.length (l.flatMap wrC) HV.out (wrs_one l) (by have := HLL.out; unfold maxLen; omega) (by have := HLL.out; omega) rfl rfl rfl rfl rfl rfl rfl ?_
  refine Agg.chFA fo_fo_Dev_0 rfl rfl rfl rfl ?_
  refine Agg.chEnd ?_
  intro vs w2 hb hf
  simp only [List.reverse, List.reverseAux, Agg.Facts] at hf
  obtain ⟨_, ho1, _, ho2, _⟩ := hf
  simp only [List.reverse, List.reverseAux, Agg.fill, List.set_cons_succ, List.set_cons_zero]
  obtain ⟨p, hp⟩ : ∃ p, vs (0 + 1 + 1 + 1) = p := ⟨_, rfl⟩
  obtain ⟨c, hc⟩ : ∃ c, vs (0 + 1 + 1 + 1 + 1 + 1 + 1 + 1) = c := ⟨_, rfl⟩
  rw [hp] at ho1 ⊢
  rw [hc] at ho2 ⊢
  clear hp hc
  have q1 := H1.out.keep hb
  have q2 := H2.out.keep hb
  have hpb := own_block ho1
  have hcb := own_block ho2
  have hpc := elem_apart ho1 ho2 bWne
  obtain ⟨px, pc, rfl, _, _⟩ := (ownSl ho1).shape
  obtain ⟨cx, cc, rfl, _, _⟩ := (ownSl ho2).shape
  have HO1 := Lib.hid (own_base ho1 HSZ.out)
  have HO2 := Lib.hid (own_base ho2 HSZ.out)
  have l2 := H2.out.lt
  have HP1 : Hid (∀ g, g ≤ w.heap.size + 1 → (Value.slice px P.length pc).ownBlock = none ∨ (Value.slice px P.length pc).ownBlock ≠ some g) := Lib.hid (fun g hg => .inr (fun e => by have := hpb g e; omega))
  have HP2 : Hid (∀ g, g ≤ w.heap.size + 1 → (Value.slice cx l.length cc).ownBlock = none ∨ (Value.slice cx l.length cc).ownBlock ≠ some g) := Lib.hid (fun g hg => .inr (fun e => by have := hcb g e; omega))
  replace HB := Lib.hid (HB.out.trans (hb.mono HB.out.size))
  have hsz := HB.out.size
  clear ho1 ho2 hpb hcb hpc hb H1 H2 HP HV HSZ l2
  go_wp2_with (first
    | (refine Agg.gStoreCell 0 (.slice px P.length pc) q1 rfl rfl rfl rfl rfl (by kernel_rfl) rfl (by simp) rfl (fun w12 hb12 hg12 => ?_); clear q1)
    | (refine Agg.gStoreCell 1 (.slice cx l.length cc) hb12 rfl rfl rfl rfl rfl (by kernel_rfl) rfl (by simp [spliced]) rfl (fun w13 hb13 hg13 => ?_); clear hb12))
  have q3 := (q2.far' hg12 (by omega)).far' hg13 (by omega)
  have q4 := (HO1.out.kept hg12 (HP1.out _ (by omega))).kept hg13 (HP1.out _ (by omega))
  have q5 := (HO2.out.kept hg12 (HP2.out _ (by omega))).kept hg13 (HP2.out _ (by omega))
  have hb1 := HB.out.trans (grown_below hg12 hsz (fun j hj => (by cases hj; omega)))
  have hb2 := hb1.trans (grown_below hg13 hb1.size (fun j hj => (by cases hj; omega)))
  have e13 : spliced (spliced [.slice x P.length cap, .slice y l.length cm, .int .i64 z, .bool q] 0 [.slice px P.length pc]) 1 [.slice cx l.length cc] = [.slice px P.length pc, .slice cx l.length cc, .int .i64 z, .bool q] := by simp [spliced]
  rw [e13] at hb13
  clear e13 hg12 hg13 hb1 HO1 HO2 q2 HB
  have HO1 := Lib.hid q4
  have HO2 := Lib.hid q5
  clear q4 q5
  have hsz2 := hb2.size
  refine Agg.noP ?_
  go_wp2_with (first
    | (refine Agg.gLoadB 4 hb13 rfl rfl rfl rfl (by decide +kernel) ?_; simp only [Act.put, List.setIfInBounds_toArray, List.set_cons_succ, List.set_cons_zero])
    | (refine Agg.gStoreB 4 [.slice px P.length pc, .slice cx l.length cc, .int .i64 z, .bool q] q3 rfl rfl rfl rfl rfl (by decide +kernel) rfl rfl (by simp [Value.oneCell']) (fun w14 hb14 hg14 => ?_)))
  have q5 := HO1.out.kept hg14 (HP1.out _ (by omega))
  have q6 := HO2.out.kept hg14 (HP2.out _ (by omega))
  refine bodyPost_ret (results_row1 (m := 4) rfl hb14 rfl (by decide +kernel) rfl) rfl ⟨_, _, rfl, q5, q6, ?_⟩
  exact hb2.trans (grown_below hg14 hsz2 (fun j hj => (by cases hj; omega)))
end Go.Proofs.Ytgfmpkcgkjpgnaa
end
section
/-
  DEVICES: the document's Same.
-/
namespace Go.Proofs.Ytgfmpkcgkjpgnaa
open Go.ChangeShapes Go.WideShapes Go.ChangeAt Go.RowKit Agg Pg Dv

set_option maxHeartbeats 4000000 in
set_option maxRecDepth 100000 in
theorem rSame_D (P Q : List (List Sec)) (C D : List (Int × List Sec)) (x y x2 y2 : Option Addr) (cp cc cp2 cc2 : Nat) (z z2 : Int) (o o2 : Bool) (w : World)
    (hP : ∀ b ∈ P, BOk b) (hQ : ∀ b ∈ Q, BOk b) (hC : ∀ b ∈ C, WOk b) (hD : ∀ b ∈ D, WOk b)
    (h1 : Pgs w (.slice x P.length cp) P) (h2 : Wrs w (.slice y C.length cc) C) (h3 : Pgs w (.slice x2 Q.length cp2) Q) (h4 : Wrs w (.slice y2 D.length cc2) D) (r : Bool) (hr : decide (z = z2 ∧ o = o2 ∧ P = Q ∧ C = D) = r) :
    Calls Try.prog 24 #[.agg #[.slice x P.length cp, .slice y C.length cc, .int .i64 z, .bool o], .agg #[.slice x2 Q.length cp2, .slice y2 D.length cc2, .int .i64 z2, .bool o2]] w fun e w' => e = .returned (.bool r) ∧ Below w.heap.size w w' := by
  obtain ⟨_, _, hve, _, hmx⟩ := SlR.shape h1
  simp only [Value.slice.injEq, true_and] at hve
  obtain ⟨rfl, rfl⟩ := hve
  obtain ⟨_, _, hve, _, hmy⟩ := SlR.shape h2
  simp only [Value.slice.injEq, true_and] at hve
  obtain ⟨rfl, rfl⟩ := hve
  unfold maxLen at hmx hmy
  have hnx : (P.length : Int) ≤ 9223372036854775807 := by omega
  have hny : (C.length : Int) ≤ 9223372036854775807 := by omega
  have H1 := Lib.hid h1
  have H2 := Lib.hid h2
  have H3 := Lib.hid h3
  have H4 := Lib.hid h4
  have HR := Lib.hid hr
  have HP := Lib.hid hP
  have HQ := Lib.hid hQ
  have HC := Lib.hid hC
  have HD := Lib.hid hD
  have HCP : Hid (∀ b ∈ P, (blkC b).length = 132) := Lib.hid (fun b hb => bok_cells (hP b hb))
  have HCQ : Hid (∀ b ∈ Q, (blkC b).length = 132) := Lib.hid (fun b hb => bok_cells (hQ b hb))
  have HCC : Hid (∀ b ∈ C, (wrC b).length = 133) := Lib.hid (fun b hb => wrC_length b (hC b hb).2)
  have HCD : Hid (∀ b ∈ D, (wrC b).length = 133) := Lib.hid (fun b hb => wrC_length b (hD b hb).2)
  clear hP hQ hC hD h1 h2 h3 h4 hr hmx hmy
  have HVP := H1
  have HVC := H2
  have HVQ := H3
  have HVD := H4
  have HB := Lib.hid (Below.refl w.heap.size w)
  go_enter Try.func24, Try.ntmps24
  go_upto_region 1 with (fail)
  refine Agg.wp_at fun w1 hw1 => ?_
  have hb : Below w.heap.size w w1 := by rw [hw1.out]; repeat (first | exact Below.refl _ _ | refine Agg.bel_drew ?_ | refine Agg.bel_alloc ?_ _)
  replace HB := Lib.hid (HB.out.trans (hb.mono HB.out.size))
  replace H1 := Lib.hid (H1.out.keep hb)
  replace H2 := Lib.hid (H2.out.keep hb)
  replace H3 := Lib.hid (H3.out.keep hb)
  replace H4 := Lib.hid (H4.out.keep hb)
  clear hb
  have HA : Hid (Blk w1 w.heap.size 46 [.slice x P.length cp, .slice y C.length cc, .int .i64 z, .bool o]) := by show Blk _ _ _ _; rw [hw1.out]; exact (Blk.new w 46 #[.slice x P.length cp, .slice y C.length cc, .int .i64 z, .bool o]).al _
  have HA2 : Hid (Blk w1 (w.heap.size + 1) 46 [.slice x2 Q.length cp2, .slice y2 D.length cc2, .int .i64 z2, .bool o2]) := by show Blk _ _ _ _; rw [hw1.out]; exact Blk.newAt (w.alloc _) 46 #[.slice x2 Q.length cp2, .slice y2 D.length cc2, .int .i64 z2, .bool o2] _ (by simp)
  clear hw1
  by_cases hz : z = z2
  · have hzz : (z != z2) = false := by simpa using hz
    by_cases ho : o = o2
    · have hoo : (o == o2) = true := by simpa using ho
      by_cases hlp : P.length = Q.length
      · by_cases hlc : C.length = D.length
        · have hll : ((P.length : Int) != Q.length) = false := by simp; omega
          have hcc : ((C.length : Int) != D.length) = false := by simp; omega
          have HZ : Hid (z = z2 ∧ o = o2) := Lib.hid ⟨hz, ho⟩
          have HLP := Lib.hid hlp
          have HLC := Lib.hid hlc
          clear hz ho hlp hlc
          have xHA_0 := HA.out.cell 0
          have xHA_1 := HA.out.cell 1
          have xHA_2 := HA.out.cell 2
          have xHA_3 := HA.out.cell 3
          have lHA := HA.out.lt
          simp only [List.getElem?_cons_zero, List.getElem?_cons_succ] at xHA_0 xHA_1 xHA_2 xHA_3
          have xHA2_0 := HA2.out.cell 0
          have xHA2_1 := HA2.out.cell 1
          have xHA2_2 := HA2.out.cell 2
          have xHA2_3 := HA2.out.cell 3
          have lHA2 := HA2.out.lt
          simp only [List.getElem?_cons_zero, List.getElem?_cons_succ] at xHA2_0 xHA2_1 xHA2_2 xHA2_3
          go_wp2_with fail
          clear xHA_0 xHA_1 xHA_2 xHA_3 lHA xHA2_0 xHA2_1 xHA2_2 xHA2_3 lHA2
          clear hzz hoo hll hcc
          go_loopw [40, 5] (fun i j wr => ∃ k : Nat, k ≤ P.length ∧ i = .int .i64 k ∧ Below w.heap.size w wr ∧ P.take k = Q.take k ∧ Blk wr w.heap.size 46 [.slice x P.length cp, .slice y C.length cc, .int .i64 z, .bool o] ∧ Blk wr (w.heap.size + 1) 46 [.slice x2 Q.length cp2, .slice y2 D.length cc2, .int .i64 z2, .bool o2]) (fun i _ _ => P.length - (intOf i).toNat)
          case atStart => exact ⟨0, by omega, rfl, HB.out, rfl, HA.out, HA2.out⟩
          case round =>
            obtain ⟨k, hk, rfl, hb, htk, hba, hba2⟩ := hrel
            replace HB := Lib.hid hb
            have HTK := Lib.hid htk
            replace H1 := Lib.hid (HVP.out.keep hb)
            replace H2 := Lib.hid (HVC.out.keep hb)
            replace H3 := Lib.hid (HVQ.out.keep hb)
            replace H4 := Lib.hid (HVD.out.keep hb)
            replace HA := Lib.hid hba
            replace HA2 := Lib.hid hba2
            clear hb htk hba hba2
            obtain ⟨wA, hwA⟩ : ∃ x, x = wr := ⟨_, rfl⟩
            subst hwA
            by_cases hlt : k < P.length
            · have hltq : k < Q.length := by have := HLP.out; omega
              obtain ⟨b, o', cap', hve, _, _, _, _⟩ := SlR.pos H1.out (by decide) (by omega)
              simp only [Value.slice.injEq, true_and] at hve
              obtain ⟨rfl, rfl⟩ := hve
              obtain ⟨b2, o2', cap2, hve, _, _, _, _⟩ := SlR.pos H3.out (by decide) (by omega)
              simp only [Value.slice.injEq, true_and] at hve
              obtain ⟨rfl, rfl⟩ := hve
              have hcu := Lib.hid (flat_at blkC 132 (by decide) H1.out HCP.out hlt)
              have hcv := Lib.hid (flat_at blkC 132 (by decide) H3.out HCQ.out hltq)
              have h1 := Lib.hid (HCP.out _ (List.getElem_mem hlt))
              have h2 := Lib.hid (HCQ.out _ (List.getElem_mem hltq))
              obtain ⟨q, hq⟩ : ∃ q, decide (P[k] = Q[k]) = q := ⟨_, rfl⟩
              have HNQ := Lib.hid (blk_neq P[k] Q[k] (HP.out _ (List.getElem_mem hlt)) (HQ.out _ (List.getElem_mem hltq)) q hq)
              have HST : Hid (q = true → P.take (k + 1) = Q.take (k + 1)) := by
                refine Lib.hid (fun e => ?_)
                rw [e, decide_eq_true_eq] at hq
                rw [List.take_succ_eq_append_getElem hlt, List.take_succ_eq_append_getElem hltq, HTK.out, hq]
              have HNE : Hid (q = false → P ≠ Q) := by
                refine Lib.hid (fun e he => ?_)
                rw [e, decide_eq_false_iff_not] at hq
                exact hq (by subst he; rfl)
              clear hq
              generalize P[k] = A at *
              generalize Q[k] = B at *
              go_upto_region 6 with (fail)
              refine Agg.chainR 11 (by kernel_rfl) (by kernel_rfl) ?_
              simp only [List.take_succ_cons, List.take_zero, List.drop_succ_cons, List.drop_zero]
              refine Agg.chFA fo_fo_Dev_0 rfl rfl rfl rfl ?_
              refine Agg.chLoadB HA.out (by decide +kernel) rfl rfl (by rfl) rfl rfl ?_
              refine Agg.chMove rfl rfl rfl rfl ?_
              refine Agg.chIA tiBl (by omega) (by omega) rfl rfl rfl rfl rfl ?_
              refine Agg.chRowAt 132 (blkC A) h1.out (by decide +kernel) rfl rfl rfl rfl hcu.out ?_
              refine Agg.chFA fo_fo_Dev_0 rfl rfl rfl rfl ?_
              refine Agg.chLoadB HA2.out (by decide +kernel) rfl rfl (by rfl) rfl rfl ?_
              refine Agg.chMove rfl rfl rfl rfl ?_
              refine Agg.chIA tiBl (by omega) (by omega) rfl rfl rfl rfl rfl ?_
              refine Agg.chRowAt 132 (blkC B) h2.out (by decide +kernel) rfl rfl rfl rfl hcv.out ?_
              refine Agg.chBin (v := .bool (!q)) rfl rfl rfl rfl rfl (fun w => flatBlk.gd .neq _ _ _ _ w) HNQ.out ?_
              refine Agg.chEnd ?_
              intro vs w11 hb _
              refine Agg.wpNil ?_
              simp only [List.reverse, List.reverseAux, Agg.fill, List.set_cons_succ, List.set_cons_zero]
              replace HB := Lib.hid (HB.out.trans (hb.mono HB.out.size))
              replace H1 := Lib.hid (H1.out.keep hb)
              replace H2 := Lib.hid (H2.out.keep hb)
              replace H3 := Lib.hid (H3.out.keep hb)
              replace H4 := Lib.hid (H4.out.keep hb)
              replace HA := Lib.hid (HA.out.keep hb)
              replace HA2 := Lib.hid (HA2.out.keep hb)
              clear hb
              cases q
              · obtain rfl : r = false := by rw [← HR.out]; have := HNE.out rfl; simp [this]
                rw [show (!false) = true from rfl]
                go_wp2_with fail
                go_ret
                exact ⟨rfl, HB.out⟩
              · rw [show (!true) = false from rfl]
                go_wp2_with fail
                go_roundw
                case rel => exact ⟨k + 1, by omega, by go_num, HB.out, HST.out rfl, HA.out, HA2.out⟩
                case measure => simp [intOf]; omega
            · obtain rfl : k = P.length := by omega
              have HEP : Hid (P = Q) := by
                refine Lib.hid ?_
                have := HTK.out
                rwa [List.take_length, HLP.out, List.take_length] at this
              clear HTK hlt hk
              have xHA_0 := HA.out.cell 0
              have xHA_1 := HA.out.cell 1
              have xHA_2 := HA.out.cell 2
              have xHA_3 := HA.out.cell 3
              have lHA := HA.out.lt
              simp only [List.getElem?_cons_zero, List.getElem?_cons_succ] at xHA_0 xHA_1 xHA_2 xHA_3
              have xHA2_0 := HA2.out.cell 0
              have xHA2_1 := HA2.out.cell 1
              have xHA2_2 := HA2.out.cell 2
              have xHA2_3 := HA2.out.cell 3
              have lHA2 := HA2.out.lt
              simp only [List.getElem?_cons_zero, List.getElem?_cons_succ] at xHA2_0 xHA2_1 xHA2_2 xHA2_3
              go_wp2_with fail
              clear xHA_0 xHA_1 xHA_2 xHA_3 lHA xHA2_0 xHA2_1 xHA2_2 xHA2_3 lHA2
              go_loopw [58, 6] (fun i j wr => ∃ k : Nat, k ≤ C.length ∧ i = .int .i64 k ∧ Below w.heap.size w wr ∧ C.take k = D.take k ∧ Blk wr w.heap.size 46 [.slice x P.length cp, .slice y C.length cc, .int .i64 z, .bool o] ∧ Blk wr (w.heap.size + 1) 46 [.slice x2 Q.length cp2, .slice y2 D.length cc2, .int .i64 z2, .bool o2]) (fun i _ _ => C.length - (intOf i).toNat)
              case atStart => exact ⟨0, by omega, rfl, HB.out, rfl, HA.out, HA2.out⟩
              case round =>
                obtain ⟨k, hk, rfl, hb, htk, hba, hba2⟩ := hrel
                replace HB := Lib.hid hb
                have HTK := Lib.hid htk
                replace H1 := Lib.hid (HVP.out.keep hb)
                replace H2 := Lib.hid (HVC.out.keep hb)
                replace H3 := Lib.hid (HVQ.out.keep hb)
                replace H4 := Lib.hid (HVD.out.keep hb)
                replace HA := Lib.hid hba
                replace HA2 := Lib.hid hba2
                clear hb htk hba hba2
                obtain ⟨wC, hwC⟩ : ∃ x, x = wr := ⟨_, rfl⟩
                subst hwC
                by_cases hlt : k < C.length
                · have hltq : k < D.length := by have := HLC.out; omega
                  obtain ⟨b, o', cap', hve, _, _, _, _⟩ := SlR.pos H2.out (by decide) (by omega)
                  simp only [Value.slice.injEq, true_and] at hve
                  obtain ⟨rfl, rfl⟩ := hve
                  obtain ⟨b2, o2', cap2, hve, _, _, _, _⟩ := SlR.pos H4.out (by decide) (by omega)
                  simp only [Value.slice.injEq, true_and] at hve
                  obtain ⟨rfl, rfl⟩ := hve
                  have hcu := Lib.hid (flat_at wrC 133 (by decide) H2.out HCC.out hlt)
                  have hcv := Lib.hid (flat_at wrC 133 (by decide) H4.out HCD.out hltq)
                  have h1 := Lib.hid (HCC.out _ (List.getElem_mem hlt))
                  have h2 := Lib.hid (HCD.out _ (List.getElem_mem hltq))
                  obtain ⟨q, hq⟩ : ∃ q, decide (C[k] = D[k]) = q := ⟨_, rfl⟩
                  have HNQ := Lib.hid (wr_neq C[k] D[k] (HC.out _ (List.getElem_mem hlt)) (HD.out _ (List.getElem_mem hltq)) q hq)
                  have HST : Hid (q = true → C.take (k + 1) = D.take (k + 1)) := by
                    refine Lib.hid (fun e => ?_)
                    rw [e, decide_eq_true_eq] at hq
                    rw [List.take_succ_eq_append_getElem hlt, List.take_succ_eq_append_getElem hltq, HTK.out, hq]
                  have HNE : Hid (q = false → C ≠ D) := by
                    refine Lib.hid (fun e he => ?_)
                    rw [e, decide_eq_false_iff_not] at hq
                    exact hq (by subst he; rfl)
                  clear hq
                  generalize C[k] = A at *
                  generalize D[k] = B at *
                  go_upto_region 12 with (fail)
                  refine Agg.chainR 11 (by kernel_rfl) (by kernel_rfl) ?_
                  simp only [List.take_succ_cons, List.take_zero, List.drop_succ_cons, List.drop_zero]
                  refine Agg.chFA fo_fo_Dev_1 rfl rfl rfl rfl ?_
                  refine Agg.chLoadB HA.out (by decide +kernel) rfl rfl (by rfl) rfl rfl ?_
                  refine Agg.chMove rfl rfl rfl rfl ?_
                  refine Agg.chIA tiW (by omega) (by omega) rfl rfl rfl rfl rfl ?_
                  refine Agg.chRowAt 133 (wrC A) h1.out (by decide +kernel) rfl rfl rfl rfl hcu.out ?_
                  refine Agg.chFA fo_fo_Dev_1 rfl rfl rfl rfl ?_
                  refine Agg.chLoadB HA2.out (by decide +kernel) rfl rfl (by rfl) rfl rfl ?_
                  refine Agg.chMove rfl rfl rfl rfl ?_
                  refine Agg.chIA tiW (by omega) (by omega) rfl rfl rfl rfl rfl ?_
                  refine Agg.chRowAt 133 (wrC B) h2.out (by decide +kernel) rfl rfl rfl rfl hcv.out ?_
                  refine Agg.chBin (v := .bool (!q)) rfl rfl rfl rfl rfl (fun w => flatWr.gd .neq _ _ _ _ w) HNQ.out ?_
                  refine Agg.chEnd ?_
                  intro vs w11 hb _
                  refine Agg.wpNil ?_
                  simp only [List.reverse, List.reverseAux, Agg.fill, List.set_cons_succ, List.set_cons_zero]
                  replace HB := Lib.hid (HB.out.trans (hb.mono HB.out.size))
                  replace H1 := Lib.hid (H1.out.keep hb)
                  replace H2 := Lib.hid (H2.out.keep hb)
                  replace H3 := Lib.hid (H3.out.keep hb)
                  replace H4 := Lib.hid (H4.out.keep hb)
                  replace HA := Lib.hid (HA.out.keep hb)
                  replace HA2 := Lib.hid (HA2.out.keep hb)
                  clear hb
                  cases q
                  · obtain rfl : r = false := by rw [← HR.out]; have := HNE.out rfl; simp [this]
                    rw [show (!false) = true from rfl]
                    go_wp2_with fail
                    go_ret
                    exact ⟨rfl, HB.out⟩
                  · rw [show (!true) = false from rfl]
                    go_wp2_with fail
                    go_roundw
                    case rel => exact ⟨k + 1, by omega, by go_num, HB.out, HST.out rfl, HA.out, HA2.out⟩
                    case measure => simp [intOf]; omega
                · obtain rfl : k = C.length := by omega
                  have HEC : Hid (C = D) := by
                    refine Lib.hid ?_
                    have := HTK.out
                    rwa [List.take_length, HLC.out, List.take_length] at this
                  clear HTK hlt hk
                  have xHA_0 := HA.out.cell 0
                  have xHA_1 := HA.out.cell 1
                  have xHA_2 := HA.out.cell 2
                  have xHA_3 := HA.out.cell 3
                  have lHA := HA.out.lt
                  simp only [List.getElem?_cons_zero, List.getElem?_cons_succ] at xHA_0 xHA_1 xHA_2 xHA_3
                  have xHA2_0 := HA2.out.cell 0
                  have xHA2_1 := HA2.out.cell 1
                  have xHA2_2 := HA2.out.cell 2
                  have xHA2_3 := HA2.out.cell 3
                  have lHA2 := HA2.out.lt
                  simp only [List.getElem?_cons_zero, List.getElem?_cons_succ] at xHA2_0 xHA2_1 xHA2_2 xHA2_3
                  go_wp2_with fail
                  clear xHA_0 xHA_1 xHA_2 xHA_3 lHA xHA2_0 xHA2_1 xHA2_2 xHA2_3 lHA2
                  obtain rfl : r = true := by rw [← HR.out, HEP.out, HEC.out]; simp [HZ.out]
                  go_ret
                  exact ⟨rfl, HB.out⟩
        · have hll : ((P.length : Int) != Q.length) = false := by simp; omega
          have hcc : ((C.length : Int) != D.length) = true := by simp; omega
          obtain rfl : r = false := by rw [← HR.out]; simp only [decide_eq_false_iff_not]; exact fun h => hlc (by rw [h.2.2.2])
          clear hz ho hlp hlc
          have xHA_0 := HA.out.cell 0
          have xHA_1 := HA.out.cell 1
          have xHA_2 := HA.out.cell 2
          have xHA_3 := HA.out.cell 3
          have lHA := HA.out.lt
          simp only [List.getElem?_cons_zero, List.getElem?_cons_succ] at xHA_0 xHA_1 xHA_2 xHA_3
          have xHA2_0 := HA2.out.cell 0
          have xHA2_1 := HA2.out.cell 1
          have xHA2_2 := HA2.out.cell 2
          have xHA2_3 := HA2.out.cell 3
          have lHA2 := HA2.out.lt
          simp only [List.getElem?_cons_zero, List.getElem?_cons_succ] at xHA2_0 xHA2_1 xHA2_2 xHA2_3
          go_wp2_with fail
          go_ret
          exact ⟨rfl, HB.out⟩
      · have hll : ((P.length : Int) != Q.length) = true := by simp; omega
        obtain rfl : r = false := by rw [← HR.out]; simp only [decide_eq_false_iff_not]; exact fun h => hlp (by rw [h.2.2.1])
        clear hz ho hlp
        have xHA_0 := HA.out.cell 0
        have xHA_1 := HA.out.cell 1
        have xHA_2 := HA.out.cell 2
        have xHA_3 := HA.out.cell 3
        have lHA := HA.out.lt
        simp only [List.getElem?_cons_zero, List.getElem?_cons_succ] at xHA_0 xHA_1 xHA_2 xHA_3
        have xHA2_0 := HA2.out.cell 0
        have xHA2_1 := HA2.out.cell 1
        have xHA2_2 := HA2.out.cell 2
        have xHA2_3 := HA2.out.cell 3
        have lHA2 := HA2.out.lt
        simp only [List.getElem?_cons_zero, List.getElem?_cons_succ] at xHA2_0 xHA2_1 xHA2_2 xHA2_3
        go_wp2_with fail
        go_ret
        exact ⟨rfl, HB.out⟩
    · have hoo : (o == o2) = false := by simpa using ho
      obtain rfl : r = false := by rw [← HR.out]; simp [ho]
      clear hz ho
      have xHA_0 := HA.out.cell 0
      have xHA_1 := HA.out.cell 1
      have xHA_2 := HA.out.cell 2
      have xHA_3 := HA.out.cell 3
      have lHA := HA.out.lt
      simp only [List.getElem?_cons_zero, List.getElem?_cons_succ] at xHA_0 xHA_1 xHA_2 xHA_3
      have xHA2_0 := HA2.out.cell 0
      have xHA2_1 := HA2.out.cell 1
      have xHA2_2 := HA2.out.cell 2
      have xHA2_3 := HA2.out.cell 3
      have lHA2 := HA2.out.lt
      simp only [List.getElem?_cons_zero, List.getElem?_cons_succ] at xHA2_0 xHA2_1 xHA2_2 xHA2_3
      go_wp2_with fail
      go_ret
      exact ⟨rfl, HB.out⟩
  · have hzz : (z != z2) = true := by simpa using hz
    obtain rfl : r = false := by rw [← HR.out]; simp [hz]
    clear hz
    have xHA_0 := HA.out.cell 0
    have xHA_1 := HA.out.cell 1
    have xHA_2 := HA.out.cell 2
    have xHA_3 := HA.out.cell 3
    have lHA := HA.out.lt
    simp only [List.getElem?_cons_zero, List.getElem?_cons_succ] at xHA_0 xHA_1 xHA_2 xHA_3
    have xHA2_0 := HA2.out.cell 0
    have xHA2_1 := HA2.out.cell 1
    have xHA2_2 := HA2.out.cell 2
    have xHA2_3 := HA2.out.cell 3
    have lHA2 := HA2.out.lt
    simp only [List.getElem?_cons_zero, List.getElem?_cons_succ] at xHA2_0 xHA2_1 xHA2_2 xHA2_3
    go_wp2_with fail
    go_ret
    exact ⟨rfl, HB.out⟩
end Go.Proofs.Ytgfmpkcgkjpgnaa
end
section
/-
  MIXTURES of two blocks, in plain Lean (a part of XPg6 and XPg7, for other seats).
-/
namespace Pg
open Go Go.RowKit Agg
/-- Mix: the sectors of a mask are the new one's -/
def mixB (old new : List Sec) (mask : Int) : List Sec := (List.range 4).map fun i => if (mask / 2 ^ i) % 2 = 1 then new.getD i (0, []) else old.getD i (0, [])
/-- .. as far as round k -/
def mixTo (old new : List Sec) (mask : Int) (k : Nat) : List Sec := (List.range 4).map fun i => if i < k ∧ (mask / 2 ^ i) % 2 = 1 then new.getD i (0, []) else old.getD i (0, [])
theorem mixTo_zero (old new : List Sec) (h : old.length = 4) (mask : Int) : mixTo old new mask 0 = old := by
  match old, h with
  | [a, b, c, d], _ => simp [mixTo, List.range, List.range.loop]
theorem mixTo_all (old new : List Sec) (mask : Int) : mixTo old new mask 4 = mixB old new mask := by
  unfold mixTo mixB
  apply List.map_congr_left
  intro i hi
  have : i < 4 := List.mem_range.1 hi
  simp [this]
theorem mixTo_length (old new : List Sec) (mask : Int) (k : Nat) : (mixTo old new mask k).length = 4 := by simp [mixTo]
theorem getD_mem {b : List Sec} (i : Nat) (h : i < b.length) : b.getD i (0, []) = b[i] := by rw [List.getD_eq_getElem?_getD, List.getElem?_eq_getElem h]; rfl
theorem mixTo_mem (old new : List Sec) (h1 : old.length = 4) (h2 : new.length = 4) (mask : Int) (k : Nat) : ∀ s ∈ mixTo old new mask k, s ∈ old ∨ s ∈ new := by
  intro s hs
  obtain ⟨i, hi, rfl⟩ := List.mem_map.1 hs
  have : i < 4 := List.mem_range.1 hi
  split
  · rw [getD_mem i (by omega)]; exact .inr (List.getElem_mem _)
  · rw [getD_mem i (by omega)]; exact .inl (List.getElem_mem _)
theorem mixTo_yes (old new : List Sec) (h2 : new.length = 4) (mask : Int) (k : Nat) (hk : k < 4) (h : (mask / 2 ^ k) % 2 = 1) : (mixTo old new mask k).set k (new[k]'(by omega)) = mixTo old new mask (k + 1) := by
  apply List.ext_getElem?
  intro i
  rw [List.getElem?_set]
  by_cases hi : k = i
  · subst hi
    simp only [mixTo, List.length_map, List.length_range, hk, if_true, List.getElem?_map, List.getElem?_range hk, Option.map_some, h]
    rw [if_pos ⟨by omega, trivial⟩, getD_mem k (by omega)]
  · rw [if_neg hi]
    simp only [mixTo, List.getElem?_map]
    by_cases h4 : i < 4
    · simp only [List.getElem?_range h4, Option.map_some]
      congr 1
      by_cases hlt : i < k
      · simp [hlt, Nat.lt_succ_of_lt hlt]
      · simp [hlt, show ¬ i < k + 1 by omega]
    · rw [List.getElem?_eq_none (by simpa using h4)]; rfl
theorem mixTo_no (old new : List Sec) (mask : Int) (k : Nat) (h : ¬ (mask / 2 ^ k) % 2 = 1) : mixTo old new mask k = mixTo old new mask (k + 1) := by
  unfold mixTo
  apply List.map_congr_left
  intro i _
  by_cases hi : i = k
  · subst hi; simp [h]
  · by_cases hlt : i < k
    · simp [hlt, Nat.lt_succ_of_lt hlt]
    · simp [hlt, show ¬ i < k + 1 by omega]
end Pg
namespace Agg
open Go Go.RowKit
theorem low_int (m : Int) : bits .and .i64 m 1 = m % 2 := by
  show IntKind.i64.wrap ((BitVec.ofInt 64 m &&& BitVec.ofInt 64 1).toNat : Int) = _
  have h1 : (BitVec.ofInt 64 1).toNat = 2 ^ 1 - 1 := by decide
  rw [BitVec.toNat_and, BitVec.toNat_ofInt, h1, Nat.and_two_pow_sub_one_eq_mod, IntKind.wrap_i64]
  omega
theorem run_shr_i64 {P : Program} (t : TypeId) (m : Int) (n : Nat) (hn : n < 64) (w : World) : (binOp .shr t (.int .i64 m) (.int .i64 (n : Int))).run P w = .ok (.int .i64 (m / 2 ^ n)) w := by
  have h0 : ¬ (n : Int) < 0 := by omega
  have e : Int.fdiv m (2 ^ n) = m / 2 ^ n := by
    have h2 : (0 : Int) ≤ 2 ^ n := Int.pow_nonneg (by decide)
    rw [Int.fdiv_eq_ediv_of_nonneg _ h2]
  have hb : min (n : Int).toNat IntKind.i64.bits = n := by simp [IntKind.bits]; omega
  simp only [binOp, Op.shift, h0, if_false, hb, Sem.run_pure, e]
end Agg
end
