/-
  DEVICES: the document's Put.
-/
import Derived.Test.YtgfmpkcgkjpgnaaFdDvR
import Derived.Test.YtgfmpkcgkjpgnaaChain2
import Derived.Test.YtgfmpkcgkjpgnaaAgg2
import Derived.Test.YtgfmpkcgkjpgnaaKn
section
namespace Go.Proofs.Ytgfmpkcgkjpgnaa
open Go.ChangeShapes Go.WideShapes Go.ChangeAt Go.RowKit Agg Pg Dv

set_option maxHeartbeats 4000000 in
set_option maxRecDepth 100000 in
theorem rPut_any (P : List (List Sec)) (l : List (Int × List Sec)) (z : Int) (q : Bool) (x y : Option Addr) (cap cm : Nat) (k : Int) (b : List Sec) (hb : BOk b) (w : World)
    (hd1 : P.length ≤ 1000000) (hd2 : l.length ≤ 1000000) (hp : Pgs w (.slice x P.length cap) P) (hv : Wrs w (.slice y l.length cm) l) (hC : ∀ x ∈ l, BOk x.2) :
    Calls Try.prog 49 #[.agg #[.slice x P.length cap, .slice y l.length cm, .int .i64 z, .bool q], .int .i64 k, .agg (blkC b).toArray] w fun e w' => ∃ v, e = .returned (.tuple #[v, .int .i64 (goesP ⟨P, l, z, q⟩ (putP ⟨P, l, z, q⟩ k b)).1]) ∧ DevR w' v (goesP ⟨P, l, z, q⟩ (putP ⟨P, l, z, q⟩ k b)).2 ∧ Below w.heap.size w w' := by
  have HP := Lib.hid hp
  have HV := Lib.hid hv
  have HP0 := HP
  have HV0 := HV
  have HCB := Lib.hid hC
  have HBO := Lib.hid hb
  have HD1 := Lib.hid hd1
  have HD2 := Lib.hid hd2
  have HPN : Hid ((P.length : Int) ≤ 9223372036854775807) := Lib.hid (by omega)
  obtain ⟨rd, hrd⟩ : ∃ b, rightD ⟨P, l, z, q⟩ = b := ⟨_, rfl⟩
  have HRD := Lib.hid hrd
  have HEE : Hid ((headD P.length z q && allD P.length l) = rd) := Lib.hid (by rw [← hrd, rightD_eq])
  obtain ⟨th, hth⟩ : ∃ b, thereB P.length k = b := ⟨_, rfl⟩
  have HTH := Lib.hid hth
  obtain ⟨g, hg⟩ : ∃ g, goesP ⟨P, l, z, q⟩ (putP ⟨P, l, z, q⟩ k b) = g := ⟨_, rfl⟩
  rw [hg]
  have HG := Lib.hid hg
  clear hp hv hC hd1 hd2 hrd hth hg hb
  have HB := Lib.hid (Below.refl w.heap.size w)
  go_enter Try.func49, Try.ntmps49
  go_upto_region 1 with (fail)
  refine Agg.wp_at fun w1 hw1 => ?_
  have hb : Below w.heap.size w w1 := by rw [hw1.out]; repeat (first | exact Below.refl _ _ | refine Agg.bel_drew ?_ | refine Agg.bel_alloc ?_ _)
  replace HB := Lib.hid (HB.out.trans (hb.mono HB.out.size))
  replace HP := Lib.hid (HP.out.keep hb)
  replace HV := Lib.hid (HV.out.keep hb)
  clear hb
  have H1 : Hid (Blk w1 w.heap.size 46 [.slice x P.length cap, .slice y l.length cm, .int .i64 z, .bool q]) := by show Blk _ _ _ _; rw [hw1.out]; exact ((Blk.new w 46 #[.slice x P.length cap, .slice y l.length cm, .int .i64 z, .bool q]).al _).al _
  have H3 : Hid (Blk w1 (w.heap.size + 1) 64 (blkC b)) := by show Blk _ _ _ _; rw [hw1.out]; exact (Blk.newAt (w.alloc _) 64 (blkC b).toArray _ (by simp)).al _
  have H2 : Hid (Blk w1 (w.heap.size + 2) 46 [.slice none 0 0, .slice none 0 0, .int .i64 0, .bool false]) := by show Blk _ _ _ _; rw [hw1.out]; exact Blk.newAt ((w.alloc _).alloc _) 46 #[.slice none 0 0, .slice none 0 0, .int .i64 0, .bool false] _ (by simp)
  clear hw1
  have xH1_0 := H1.out.cell 0
  have xH1_1 := H1.out.cell 1
  have xH1_2 := H1.out.cell 2
  have xH1_3 := H1.out.cell 3
  have lH1 := H1.out.lt
  simp only [List.getElem?_cons_zero, List.getElem?_cons_succ] at xH1_0 xH1_1 xH1_2 xH1_3
  go_wp2_with fail
  clear xH1_0 xH1_1 xH1_2 xH1_3 lH1
  refine (right_D x y P.length cap cm l z q w1 HPN.out HCB.out HV.out rd HEE.out).mono ?_
  rintro e w2 ⟨rfl, hb⟩
  replace HB := Lib.hid (HB.out.trans (hb.mono HB.out.size))
  replace HP := Lib.hid (HP.out.keep hb)
  replace HV := Lib.hid (HV.out.keep hb)
  replace H1 := Lib.hid (H1.out.keep hb)
  replace H2 := Lib.hid (H2.out.keep hb)
  replace H3 := Lib.hid (H3.out.keep hb)
  clear hb
  have l2 := H2.out.lt
  have hsz := HB.out.size
  have h2 := H2.out
  cases rd
  · have hg := HG.out
    rw [goesP, if_pos HRD.out] at hg
    subst hg
    go_wp2_with (first
      | (refine Agg.gBuild0 (.agg #[.slice none 0 0, .slice none 0 0, .int .i64 0, .bool false]) rfl rfl (fun W => zero_dev W) ?_; simp only [Act.put, List.setIfInBounds_toArray, List.set_cons_succ, List.set_cons_zero])
      | (refine Agg.gStoreB 4 [.slice none 0 0, .slice none 0 0, .int .i64 0, .bool false] h2 rfl rfl rfl rfl rfl (by decide +kernel) rfl rfl (by simp [Value.oneCell']) (fun w14 hb14 hg14 => ?_)))
    refine bodyPost_ret (results_row2 (m := 4) rfl hb14 rfl (by decide +kernel) rfl) rfl ⟨_, rfl, devR_zero _, ?_⟩
    exact HB.out.trans (grown_below hg14 HB.out.size (fun j hj => (by cases hj; omega)))
  · have hg := HG.out
    rw [goesP, if_neg (by rw [HRD.out]; decide)] at hg
    clear HG HEE
    have xH1_0 := H1.out.cell 0
    have xH1_1 := H1.out.cell 1
    have xH1_2 := H1.out.cell 2
    have xH1_3 := H1.out.cell 3
    have lH1 := H1.out.lt
    simp only [List.getElem?_cons_zero, List.getElem?_cons_succ] at xH1_0 xH1_1 xH1_2 xH1_3
    cases q
    · rw [if_neg (Bool.false_ne_true)] at hg
      go_wp2_with fail
      clear xH1_0 xH1_1 xH1_2 xH1_3 lH1
      refine (rThere_any x y P.length cap l.length cm z false k w2 HPN.out th HTH.out).mono ?_
      rintro e w3 ⟨rfl, hb⟩
      replace HB := Lib.hid (HB.out.trans (hb.mono HB.out.size))
      replace HP := Lib.hid (HP.out.keep hb)
      replace HV := Lib.hid (HV.out.keep hb)
      replace H1 := Lib.hid (H1.out.keep hb)
      replace H2 := Lib.hid (H2.out.keep hb)
      replace H3 := Lib.hid (H3.out.keep hb)
      clear hb
      have xH1_0 := H1.out.cell 0
      have xH1_1 := H1.out.cell 1
      have xH1_2 := H1.out.cell 2
      have xH1_3 := H1.out.cell 3
      have lH1 := H1.out.lt
      simp only [List.getElem?_cons_zero, List.getElem?_cons_succ] at xH1_0 xH1_1 xH1_2 xH1_3
      cases th
      · simp only [putP, HTH.out, if_true, ne_eq] at hg
        rw [if_pos (by decide)] at hg
        subst hg
        have h2 := H2.out
        go_wp2_with (first
          | (refine Agg.gBuild0 (.agg #[.slice none 0 0, .slice none 0 0, .int .i64 0, .bool false]) rfl rfl (fun W => zero_dev W) ?_; simp only [Act.put, List.setIfInBounds_toArray, List.set_cons_succ, List.set_cons_zero])
          | (refine Agg.gStoreB 4 [.slice none 0 0, .slice none 0 0, .int .i64 0, .bool false] h2 rfl rfl rfl rfl rfl (by decide +kernel) rfl rfl (by simp [Value.oneCell']) (fun w14 hb14 hg14 => ?_)))
        refine bodyPost_ret (results_row2 (m := 4) rfl hb14 rfl (by decide +kernel) rfl) rfl ⟨_, rfl, devR_zero _, ?_⟩
        exact HB.out.trans (grown_below hg14 HB.out.size (fun j hj => (by cases hj; omega)))
      · simp only [putP, HTH.out, Bool.true_eq_false, if_false, ne_eq] at hg
        obtain ⟨fo, hf⟩ : ∃ fo, burnF z false = fo := ⟨_, rfl⟩
        obtain ⟨f, o⟩ := fo
        have HF := Lib.hid hf
        simp only [burnD, hf] at hg
        have HON : Hid (decide (z ≠ 0) = !o) := Lib.hid (by
          rw [burnF] at hf
          by_cases h0 : z = 0
          · rw [if_pos h0] at hf; cases hf; simp [h0]
          · rw [if_neg h0] at hf
            split at hf <;> cases hf <;> simp [h0])
        have hz2 := (right_parts HRD.out).2.2.2.1
        clear hf
        have HFR : Hid (From w3 w3) := Lib.hid (Below.refl _ _)
        obtain ⟨B, hB⟩ : ∃ B, w3.heap.size = B := ⟨_, rfl⟩
        have l2 := H2.out.lt
        go_wp2_with fail
        clear xH1_0 xH1_1 xH1_2 xH1_3 lH1
        refine (copy_D x y cap cm P l z false w3 HD1.out HD2.out HP.out HV.out).mono ?_
        rintro e w4 ⟨p, c, rfl, hp, hc, hb⟩
        replace HB := Lib.hid (HB.out.trans (hb.mono HB.out.size))
        replace HP := Lib.hid (HP.out.keep hb)
        replace HV := Lib.hid (HV.out.keep hb)
        replace H1 := Lib.hid (H1.out.keep hb)
        replace H2 := Lib.hid (H2.out.keep hb)
        replace H3 := Lib.hid (H3.out.keep hb)
        replace HFR := Lib.hid (HFR.out.keep hb)
        clear hb
        have HPO := Lib.hid hp
        have HCO := Lib.hid hc
        rw [hB] at HPO HCO l2
        obtain ⟨px, pc, rfl, _, _⟩ := (ownSl hp).shape
        obtain ⟨cx, cc, rfl, _, _⟩ := (ownSl hc).shape
        clear hp hc
        go_wp2_with fail
        refine (rburns_any px cx P.length pc l.length cc z false w4 hz2 f o HF.out (!o) HON.out).mono ?_
        rintro e w5 ⟨rfl, hb⟩
        replace HB := Lib.hid (HB.out.trans (hb.mono HB.out.size))
        replace HP := Lib.hid (HP.out.keep hb)
        replace HV := Lib.hid (HV.out.keep hb)
        replace H1 := Lib.hid (H1.out.keep hb)
        replace H2 := Lib.hid (H2.out.keep hb)
        replace H3 := Lib.hid (H3.out.keep hb)
        replace HPO := Lib.hid (HPO.out.keep hb)
        replace HCO := Lib.hid (HCO.out.keep hb)
        replace HFR := Lib.hid (HFR.out.keep hb)
        clear hb
        have hB3 : B ≤ w5.heap.size := by have h := HFR.out; unfold From at h; rw [← hB]; exact h.size
        clear HFR hB
        cases o
        · rw [show (!false) = true from rfl]
          simp only [Bool.false_eq_true, if_false, not_true, false_and] at hg
          subst hg
          have h1 := H1.out
          go_upto_region 10 with (refine Agg.gStoreB 4 [.slice px P.length pc, .slice cx l.length cc, .int .i64 f, .bool false] h1 rfl rfl rfl rfl rfl (by decide +kernel) rfl rfl (by simp [Value.oneCell']) (fun w14 hb14 hg14 => ?_); clear h1)
          have hbA := HB.out.trans (grown_below hg14 HB.out.size (fun j hj => (by cases hj; omega)))
          have hp14 := HPO.out.kept hg14 (own_off HPO.out (by omega))
          have hc14 := HCO.out.kept hg14 (own_off HCO.out (by omega))
          have h214 := H2.out.far' hg14 (by omega)
          have h314 := H3.out.far' hg14 (by omega)
          replace HB := Lib.hid hbA
          replace HPO := Lib.hid hp14
          replace HCO := Lib.hid hc14
          replace H1 := Lib.hid hb14
          replace H2 := Lib.hid h214
          replace H3 := Lib.hid h314
          have hB4 : B ≤ w14.heap.size := Nat.le_trans hB3 hg14.size
          clear hbA hp14 hc14 h214 h314 hg14 hb14 HP HV hB3
          refine Agg.listR 6 (by kernel_rfl) ?_
          simp only [List.take_succ_cons, List.take_zero, List.drop_succ_cons, List.drop_zero]
          refine Agg.chFA (by first | exact fo_fo_Dev_1 | exact fo_fo_Wr_1) rfl rfl rfl rfl ?_
          refine Agg.chLoadB H1.out (by decide +kernel) rfl rfl (by rfl) rfl rfl ?_
          refine Agg.chMove rfl rfl rfl rfl ?_
          refine Agg.chRowB 132 H3.out (bok_cells HBO.out) (by decide +kernel) rfl rfl rfl rfl ?_
          refine Agg.chBuild (v := .agg (wrC (k, b)).toArray) rfl rfl rfl rfl (fun W => build_wr k b HBO.out W) ?_
          refine Agg.chBuildSlice (e := 88) (wrC (k, b)).toArray rfl rfl rfl rfl (fun W => lit_wr k b HBO.out W) ?_
          refine Agg.chEnd ?_
          intro vs w31 hb hf
          simp only [List.reverse, List.reverseAux, Agg.Facts] at hf
          obtain ⟨⟨g9, hv9, hb9, hk9⟩, _⟩ := hf
          simp only [List.reverse, List.reverseAux, Agg.fill, List.set_cons_succ, List.set_cons_zero, hv9]
          clear hv9
          have hb14s := HB.out.size
          have h1 := H1.out.keep hb
          have h2 := H2.out.keep hb
          have hP3 := HPO.out.keep hb
          have hC3 := HCO.out.keep hb
          have hsl : SlR w31 (.slice (some ⟨g9, 0, none⟩) 1 1) 133 1 (wrC (k, b)) := NewSl.sl (b0 := w14.heap.size) (e := 88) ⟨g9, rfl, hb9, hk9⟩ (wrC_length _ HBO.out) (by unfold maxLen; decide)
          have HB3 := Lib.hid (HB.out.trans (hb.mono HB.out.size))
          have hBw : B ≤ w31.heap.size := Nat.le_trans hB4 hb.size
          have HPO4 := Lib.hid hP3
          clear hb9 hk9 hb hP3 HPO HCO H3 H2 HB
          refine Agg.append tiW (.tmp 34) (.tmp 38) rfl rfl B (v := .slice cx l.length cc) rfl hC3 rfl hsl (wrC_one _) (by have := HD2.out; unfold maxLen; omega) (by have := HD2.out; omega) hBw ?_
          intro v' w4 hC4 hg4 _
          simp only [Act.put, List.setIfInBounds_toArray, List.set_cons_succ, List.set_cons_zero]
          have l1 := HB3.out.size
          have hp4 := HPO4.out.kept hg4 (elem_apart HPO4.out hC3 bWne)
          have h14 := blk_row h1 hg4 (own_off hC3 (by omega))
          have h24 := blk_row h2 hg4 (own_off hC3 (by omega))
          have hb4 := HB3.out.trans (grown_below hg4 l1 (fun j hj => by have := own_block hC3 j hj; omega))
          obtain ⟨vx, vc, rfl, _, _⟩ := (ownSl hC4).shape
          clear hsl hC3 hg4 h1 h2 HB3
          go_wp2_with (first
            | (refine Agg.gStoreCell 1 (.slice vx (l.length + 1) vc) h14 rfl rfl rfl rfl rfl (by kernel_rfl) rfl (by simp) rfl (fun w15 hb15 hg15 => ?_); clear h14; replace h24 := h24.far' hg15 (by omega); simp only [spliced, List.take_succ_cons, List.take_zero, List.drop_succ_cons, List.drop_zero, List.length_cons, List.length_nil, List.cons_append, List.nil_append] at hb15)
            | (refine Agg.gLoadB 4 hb15 rfl rfl rfl rfl (by decide +kernel) ?_; simp only [Act.put, List.setIfInBounds_toArray, List.set_cons_succ, List.set_cons_zero])
            | (refine Agg.gStoreB 4 [.slice px P.length pc, .slice vx (l.length + 1) vc, .int .i64 f, .bool false] h24 rfl rfl rfl rfl rfl (by decide +kernel) rfl rfl (by simp [Value.oneCell']) (fun w16 hb16 hg16 => ?_)))
          have hb5 := hb4.trans (grown_below hg15 hb4.size (fun j hj => by cases hj; omega))
          have hb6 := hb5.trans (grown_below hg16 hb5.size (fun j hj => by cases hj; omega))
          have hp6 := (hp4.kept hg15 (own_off hp4 (by omega))).kept hg16 (own_off hp4 (by omega))
          have hc6 := (hC4.kept hg15 (own_off hC4 (by omega))).kept hg16 (own_off hC4 (by omega))
          refine bodyPost_ret (results_row2 (m := 4) rfl hb16 rfl (by decide +kernel) rfl) rfl ⟨_, rfl, DevO.read (base := B) ⟨.slice px P.length pc, .slice vx (l.length + 1) vc, rfl, hp6, ?_⟩, hb6⟩
          simpa [wrC] using hc6
        · rw [show (!true) = false from rfl]
          simp only [if_true] at hg
          rw [if_neg (by simp)] at hg
          subst hg
          have h1 := H1.out
          have h2 := H2.out
          go_wp2_with (first
            | (refine Agg.gStoreB 4 [.slice px P.length pc, .slice cx l.length cc, .int .i64 f, .bool true] h1 rfl rfl rfl rfl rfl (by decide +kernel) rfl rfl (by simp [Value.oneCell']) (fun w14 hb14 hg14 => ?_); clear h1; replace h2 := h2.far' hg14 (by omega))
            | (refine Agg.gLoadB 4 hb14 rfl rfl rfl rfl (by decide +kernel) ?_; simp only [Act.put, List.setIfInBounds_toArray, List.set_cons_succ, List.set_cons_zero])
            | (refine Agg.gStoreB 4 [.slice px P.length pc, .slice cx l.length cc, .int .i64 f, .bool true] h2 rfl rfl rfl rfl rfl (by decide +kernel) rfl rfl (by simp [Value.oneCell']) (fun w15 hb15 hg15 => ?_)))
          have hbA := HB.out.trans (grown_below hg14 HB.out.size (fun j hj => (by cases hj; omega)))
          have hbC := hbA.trans (grown_below hg15 hbA.size (fun j hj => (by cases hj; omega)))
          have hp := (HPO.out.kept hg14 (own_off HPO.out (by omega))).kept hg15 (own_off HPO.out (by omega))
          have hc := (HCO.out.kept hg14 (own_off HCO.out (by omega))).kept hg15 (own_off HCO.out (by omega))
          refine bodyPost_ret (results_row2 (m := 4) rfl hb15 rfl (by decide +kernel) rfl) rfl ⟨_, rfl, ⟨px, cx, pc, cc, rfl, ownSl hp, ownSl hc⟩, hbC⟩
    · rw [if_pos rfl] at hg
      subst hg
      have h1 := H1.out
      have h2 := H2.out
      go_wp2_with (first
        | (refine Agg.gStoreB 4 [.slice x P.length cap, .slice y l.length cm, .int .i64 z, .bool true] h2 rfl rfl rfl rfl rfl (by decide +kernel) rfl rfl (by simp [Value.oneCell']) (fun w14 hb14 hg14 => ?_)))
      have hbC := HB.out.trans (grown_below hg14 HB.out.size (fun j hj => (by cases hj; omega)))
      refine bodyPost_ret (results_row2 (m := 4) rfl hb14 rfl (by decide +kernel) rfl) rfl ⟨_, rfl, ⟨x, y, cap, cm, rfl, SlR.keep HP0.out hbC, SlR.keep HV0.out hbC⟩, hbC⟩
end Go.Proofs.Ytgfmpkcgkjpgnaa
end
section
/-
  DEVICES: the document's Flush.
-/
namespace Go.Proofs.Ytgfmpkcgkjpgnaa
open Go.ChangeShapes Go.WideShapes Go.ChangeAt Go.RowKit Agg Pg Dv

theorem mixB_15 (old new : List Sec) (h : new.length = 4) : mixB old new 15 = new := by
  match new, h with
  | [a, b, c, d], _ => rfl
theorem settle_all (Q : List (List Sec)) (p : Nat) (b : List Sec) (h : b.length = 4) : settle Q ((p : Int), b) 15 = Q.set p b := by
  unfold settle
  rw [mixB_15 _ _ h, Int.toNat_natCast]
theorem pgs_put (P : List (List Sec)) (hP : ∀ b ∈ P, BOk b) (p : Nat) (h : p < P.length) (b : List Sec) (hb : BOk b) (r : List Value) :
    spliced (P.flatMap blkC ++ r) (p * 132) (blkC b) = (P.set p b).flatMap blkC ++ r := by
  have hl : ((P.take p).flatMap blkC).length = p * 132 := by rw [flat_len blkC 132 _ (fun b hb => bok_cells (hP b (List.mem_of_mem_take hb))), List.length_take]; congr 1; omega
  have e2 : P.set p b = P.take p ++ (b :: P.drop (p + 1)) := by rw [List.set_eq_take_append_cons_drop, if_pos h]
  rw [pgs_cut P p h, e2, List.flatMap_append, List.flatMap_cons, List.append_assoc, List.append_assoc, ← List.append_assoc, spliced_mid _ _ _ _ _ hl (by rw [bok_cells hb, bok_cells (hP _ (List.getElem_mem h))])]
  simp only [List.append_assoc]
end Go.Proofs.Ytgfmpkcgkjpgnaa
end
section
/-
  DEVICES: the document's Crash.
-/
namespace Go.Proofs.Ytgfmpkcgkjpgnaa
open Go.ChangeShapes Go.WideShapes Go.ChangeAt Go.RowKit Agg Pg Dv

theorem settleBy_full (P : List (List Sec)) (l : List (Int × List Sec)) (ms : List Int) (k : Nat) (hk : k ≤ l.length) (h : ms.length ≤ k) : settleBy P (l.take k) ms = settleBy P l ms := by
  induction k generalizing P l ms with
  | zero =>
    have : ms = [] := List.eq_nil_of_length_eq_zero (by omega)
    subst this
    cases l <;> simp [settleBy]
  | succ k ih =>
    cases l with
    | nil => simp
    | cons x l =>
      cases ms with
      | nil => simp [settleBy]
      | cons m ms => simpa [settleBy] using ih (settle P x m) l ms (by simpa using hk) (by simpa using h)
theorem masksB_mem {ms : List Int} (h : masksB ms = true) : ∀ m ∈ ms, 0 ≤ m ∧ m < 16 := by
  intro m hm
  have := List.all_eq_true.1 h m hm
  simpa using this
end Go.Proofs.Ytgfmpkcgkjpgnaa
end
section
/-
  DEVICES: a Fill's block.
-/
namespace Pg
open Go Go.RowKit Agg
/-- what a part of a row is stored over -/
theorem spliced_part (a b c d : List Value) (j : Nat) (h : j + d.length ≤ b.length) : spliced (a ++ b ++ c) (a.length + j) d = a ++ spliced b j d ++ c := by
  have h1 : (a ++ b ++ c).take (a.length + j) = a ++ b.take j := by
    rw [List.append_assoc, List.take_append, List.take_of_length_le (by omega), Nat.add_sub_cancel_left, List.take_append_of_le_length (by omega)]
  have h2 : (a ++ b ++ c).drop (a.length + j + d.length) = b.drop (j + d.length) ++ c := by
    rw [List.append_assoc, List.drop_append, List.drop_eq_nil_of_le (by omega), show a.length + j + d.length - a.length = j + d.length by omega, List.drop_append_of_le_length (by omega)]; simp
  rw [spliced, h1, h2, spliced]
  simp only [List.append_assoc]
theorem spliced_one (l : List Value) (i : Nat) (v : Value) (h : i < l.length) : spliced l i [v] = l.set i v := by
  rw [spliced, List.set_eq_take_append_cons_drop, if_pos h]; simp
theorem secC_byte (s : Sec) (i : Nat) (v : UInt8) (h : i < s.2.length) : spliced (secC s) (1 + i) [.int .u8 (v.toNat : Int)] = secC (s.1, s.2.set i v) := by
  rw [spliced_one _ _ _ (by simp [secC, bv_length]; omega), Nat.add_comm 1 i, secC, secC, List.set_cons_succ]
  congr 1
  simp [bv, List.map_set]
theorem blkC_byteset (b : List Sec) (hl : Len32 b) (k : Nat) (h : k < b.length) (i : Nat) (hi : i < 32) (v : UInt8) : spliced (blkC b) (k * 33 + (1 + i)) [.int .u8 (v.toNat : Int)] = blkC (b.set k (b[k].1, b[k].2.set i v)) := by
  have h32 := hl _ (List.getElem_mem h)
  have e : blkC b = blkC (b.take k) ++ secC b[k] ++ blkC (b.drop (k + 1)) := by
    conv => lhs; rw [cut_at b k h]
    rw [blkC_append, blkC_cons]; simp only [List.append_assoc]
  have e2 : b.set k (b[k].1, b[k].2.set i v) = b.take k ++ ((b[k].1, b[k].2.set i v) :: b.drop (k + 1)) := by rw [List.set_eq_take_append_cons_drop, if_pos h]
  rw [e, ← take_len b hl k (by omega), spliced_part _ _ _ _ _ (by rw [secC_length _ h32]; simp; omega), secC_byte _ _ _ (by omega), e2, blkC_append, blkC_cons]
  simp only [List.append_assoc]
end Pg
namespace Dv
open Go Go.RowKit Agg Pg
/-- a block, told by its page, its stamps, and a byte -/
structure Fl where
  page : Int
  st : List Nat
  byte : UInt8
def Fl.Ok (f : Fl) : Prop := f.st.length = 4 ∧ ∀ s ∈ f.st, s < 18446744073709551616
def flC (f : Fl) : List Value := .int .i64 f.page :: ((f.st.map fun s : Nat => Value.int .u64 (s : Int)) ++ [.int .u8 (f.byte.toNat : Int)])
def fillSec (f : Fl) (j : Nat) : Sec := (f.st.getD j 0, List.replicate 32 (f.byte + UInt8.ofNat j))
def fillB (f : Fl) : List Sec := (List.range 4).map (fillSec f)
/-- .. as far as sector k, byte i; the stamp of sector k stands -/
def fillMid (f : Fl) (k i : Nat) : List Sec := (List.range 4).map fun j => if j < k then fillSec f j else if j = k then (f.st.getD j 0, List.replicate i (f.byte + UInt8.ofNat j) ++ List.replicate (32 - i) 0) else (0, List.replicate 32 0)
def fillTo (f : Fl) (k : Nat) : List Sec := (List.range 4).map fun j => if j < k then fillSec f j else (0, List.replicate 32 0)
theorem fillTo_zero (f : Fl) : fillTo f 0 = zeroB := rfl
theorem fillTo_all (f : Fl) : fillTo f 4 = fillB f := rfl
theorem fillMid_all (f : Fl) (k : Nat) (hk : k < 4) : fillMid f k 32 = fillTo f (k + 1) := by
  unfold fillMid fillTo
  apply List.map_congr_left
  intro j _
  by_cases h : j < k
  · rw [if_pos h, if_pos (by omega)]
  · rw [if_neg h]
    by_cases h2 : j = k
    · subst h2
      rw [if_pos rfl, if_pos (by omega)]; rfl
    · rw [if_neg h2, if_neg (by omega)]
theorem rep_set (n i : Nat) (a : UInt8) (h : i < n) : (List.replicate i a ++ List.replicate (n - i) 0).set i a = List.replicate (i + 1) a ++ List.replicate (n - (i + 1)) 0 := by
  rw [List.set_append_right _ _ (by simp)]
  rw [List.length_replicate, Nat.sub_self, show n - i = (n - (i + 1)) + 1 by omega, List.replicate_succ, List.set_cons_zero, List.replicate_succ', List.append_assoc]; rfl
theorem fillMid_succ (f : Fl) (k i : Nat) (hk : k < 4) (hi : i < 32) (h : k < (fillMid f k i).length) : (fillMid f k i).set k ((fillMid f k i)[k].1, (fillMid f k i)[k].2.set i (f.byte + UInt8.ofNat k)) = fillMid f k (i + 1) := by
  have hg : (fillMid f k i)[k] = (f.st.getD k 0, List.replicate i (f.byte + UInt8.ofNat k) ++ List.replicate (32 - i) 0) := by simp [fillMid]
  rw [hg]
  dsimp only
  rw [rep_set 32 i _ hi]
  unfold fillMid
  apply List.ext_getElem
  · simp
  · intro j h1 h2
    rw [List.getElem_set]
    by_cases e : k = j
    · subst e; simp
    · rw [if_neg e]
      have : ¬ j = k := fun e2 => e e2.symm
      simp [this]
theorem fillTo_stamp (f : Fl) (k : Nat) (hk : k < 4) (h : k < (fillTo f k).length) : (fillTo f k).set k (f.st.getD k 0, (fillTo f k)[k].2) = fillMid f k 0 := by
  have hg : (fillTo f k)[k] = (0, List.replicate 32 0) := by simp [fillTo]
  rw [hg]
  unfold fillMid fillTo
  apply List.ext_getElem
  · simp
  · intro j h1 h2
    rw [List.getElem_set]
    by_cases e : k = j
    · subst e; simp
    · rw [if_neg e]
      have : ¬ j = k := fun e2 => e e2.symm
      simp [this]
theorem getD_lt {f : Fl} (h : f.Ok) (j : Nat) : f.st.getD j 0 < 18446744073709551616 := by
  rw [List.getD_eq_getElem?_getD]
  cases e : f.st[j]? with
  | none => decide
  | some s => exact h.2 s (List.mem_of_getElem? e)
theorem fillMid_bok {f : Fl} (h : f.Ok) (k i : Nat) (hi : i ≤ 32) : BOk (fillMid f k i) := by
  refine ⟨by simp [fillMid], fun s hs => ?_⟩
  obtain ⟨j, _, rfl⟩ := List.mem_map.1 hs
  split
  · exact ⟨by simp [fillSec], getD_lt h j⟩
  · split
    · exact ⟨by simp; omega, getD_lt h j⟩
    · exact ⟨by simp, by decide⟩
theorem fillTo_bok {f : Fl} (h : f.Ok) (k : Nat) : BOk (fillTo f k) := by
  refine ⟨by simp [fillTo], fun s hs => ?_⟩
  obtain ⟨j, _, rfl⟩ := List.mem_map.1 hs
  split
  · exact ⟨by simp [fillSec], getD_lt h j⟩
  · exact ⟨by simp, by decide⟩
theorem fillB_bok {f : Fl} (h : f.Ok) : BOk (fillB f) := fillTo_all f ▸ fillTo_bok h 4
end Dv
namespace Go.Proofs.Ytgfmpkcgkjpgnaa
open Go.ChangeShapes Go.WideShapes Go.ChangeAt Go.RowKit Agg Pg Dv

theorem fo_fo_Se_0 : Agg.fieldOff Try.prog 62 0 = some 0 := by kernel_rfl
theorem fo_fo_Se_1 : Agg.fieldOff Try.prog 62 1 = some 1 := by kernel_rfl
theorem ai32 : AI Try.prog 60 5 32 1 := ⟨by kernel_rfl, by kernel_rfl⟩
theorem add_u8 (a : UInt8) (k : Nat) : IntKind.u8.wrap ((a.toNat : Int) + IntKind.u8.wrap (k : Int)) = ((a + UInt8.ofNat k).toNat : Int) := by
  rw [UInt8.toNat_add]
  have e : ∀ z : Int, IntKind.u8.wrap z = z % 256 := fun z => by simp [IntKind.wrap, IntKind.bits, IntKind.signed]
  rw [e, e, UInt8.toNat_ofNat']
  omega
end Go.Proofs.Ytgfmpkcgkjpgnaa
end
section
/-
  DEVICES: an op, its masks.
-/
namespace Agg
open Go Go.RowKit
/-- a slice of a slice, up to a place -/
theorem gSliceTo {P : Program} {w : World} {o : Oper} {Q : Exit → Act → World → Prop} {ops : Array Oper} {rest : List Oper} {a : Act} {t : TypeId} {x y : Operand} {u v : Value} (r : Value) (hg : o.guard = none) (ho : o.op = .slice t x none (some y) none) (hx : a.eval x = u) (hy : a.eval y = v) (hr : ∀ w2, (Instr.sliceAt t u none (some v) none).run P w2 = .ok r w2)
    (h : wpList P ops Q rest (a.put o.dst r) w) : wpList P ops Q (o :: rest) a w := by
  refine Agg.run hg r w ?_ h
  simp only [execOp, ho, Option.map_some, Option.map_none, hx, hy, hr, Sem.run_bind, Result.andThen_ok, Sem.run_pure]
end Agg
namespace Dv
open Go Go.RowKit Agg Pg
/-- what is done -/
structure OpD where
  kind : Int
  fl : Fl
  n : Int
  ms : List Int
def opC (o : OpD) (mv : Value) : List Value := .int .i64 o.kind :: (flC o.fl ++ [.int .i64 o.n, mv])
theorem flC_length {f : Fl} (h : f.Ok) : (flC f).length = 6 := by simp [flC, h.1]
theorem opC_length {o : OpD} (h : o.fl.Ok) (mv : Value) : (opC o mv).length = 9 := by simp [opC, flC_length h]
theorem opC_mv {o : OpD} (h : o.fl.Ok) (mv : Value) : (opC o mv)[8]? = some mv := by
  rw [opC, List.getElem?_cons_succ, List.getElem?_append_right (by rw [flC_length h]; omega), flC_length h]; rfl
theorem opC_n {o : OpD} (h : o.fl.Ok) (mv : Value) : (opC o mv)[7]? = some (.int .i64 o.n) := by
  rw [opC, List.getElem?_cons_succ, List.getElem?_append_right (by rw [flC_length h]; omega), flC_length h]; rfl
theorem opC_fl {o : OpD} (h : o.fl.Ok) (mv : Value) (i : Nat) (hi : i < 6) : (opC o mv)[1 + i]? = (flC o.fl)[i]? := by
  rw [opC, Nat.add_comm 1 i, List.getElem?_cons_succ, List.getElem?_append_left (by rw [flC_length h]; exact hi)]
theorem opC_page {o : OpD} (mv : Value) : (opC o mv)[1]? = some (.int .i64 o.fl.page) := rfl
theorem opC_kind {o : OpD} (mv : Value) : (opC o mv)[0]? = some (.int .i64 o.kind) := rfl
end Dv
namespace Go.Proofs.Ytgfmpkcgkjpgnaa
open Go.ChangeShapes Go.WideShapes Go.ChangeAt Go.RowKit Agg Pg Dv

end Go.Proofs.Ytgfmpkcgkjpgnaa
end
section
/-
  CALLS IN REGIONS THAT DRAW THEIR ORDER, whose arguments are known, or of which something is known. Over any program.
-/
namespace Agg
open Go Go.RowKit
section
variable {n kk : Nat} {P : Program} {l rest : List Oper} {W : World} {l0 : List Value} {ds : List Deferred} {acc : List R} {o : Oper} {fin : List R → Prop}
/-- one argument, of which something is known -/
theorem chCall_o {f : FuncId} {fn : Func} (hf : P.funcs[f]? = some fn) (hbody : fn.body.isNone = false) (hname : (fn.name == "runtime.NumGoroutine") = false) {t : Nat} {ts : Array TypeId} (r : R) (hst : r.ok) (j : Nat) {g : Value → World → Prop}
    (ho : o.op = .call { callee := .value (.func f), args := #[.tmp t], argTypes := ts }) (hd : depL o j = true) (hj : look kk acc j = some (.op g)) (ht : (l[j]?).map (·.dst) = some (some t)) (hw : wants kk acc o = some true) (hk : gOk l o = true)
    (hc : ∀ u w, Below W.heap.size W w → g u w → Calls P f #[u] w fun e w' => ∃ v, e = .returned v ∧ r.holds v w' ∧ Below w.heap.size w w')
    (h : ChainR n P l.toArray W ⟨l0.toArray, ds⟩ (kk + 1) (r :: acc) rest fin) : ChainR n P l.toArray W ⟨l0.toArray, ds⟩ kk acc (o :: rest) fin :=
  chCallA (r := r) (by rw [ho]; rfl) hw hk hst hf hbody hname ho (fun a w hh => by
    obtain ⟨u, hu, hg⟩ := hh.op j t hd hj ht
    have e : (#[Operand.tmp t].map a.eval) = #[u] := by simp [hu]
    rw [e]
    exact hc u w hh.below hg) h
/-- two, the second one of which something is known -/
theorem chCall_po {f : FuncId} {fn : Func} (hf : P.funcs[f]? = some fn) (hbody : fn.body.isNone = false) (hname : (fn.name == "runtime.NumGoroutine") = false) {x : Operand} {vx : Value} {t : Nat} {ts : Array TypeId} (r : R) (hst : r.ok) (j : Nat) {g : Value → World → Prop}
    (ho : o.op = .call { callee := .value (.func f), args := #[x, .tmp t], argTypes := ts }) (hx : rd (l.take n) l0 kk acc o x = some vx) (hd : depL o j = true) (hj : look kk acc j = some (.op g)) (ht : (l[j]?).map (·.dst) = some (some t)) (hw : wants kk acc o = some true) (hk : gOk l o = true)
    (hc : ∀ u w, Below W.heap.size W w → g u w → Calls P f #[vx, u] w fun e w' => ∃ v, e = .returned v ∧ r.holds v w' ∧ Below w.heap.size w w')
    (h : ChainR n P l.toArray W ⟨l0.toArray, ds⟩ (kk + 1) (r :: acc) rest fin) : ChainR n P l.toArray W ⟨l0.toArray, ds⟩ kk acc (o :: rest) fin :=
  chCallA (r := r) (by rw [ho]; rfl) hw hk hst hf hbody hname ho (fun a w hh => by
    obtain ⟨u, hu, hg⟩ := hh.op j t hd hj ht
    have e : (#[x, Operand.tmp t].map a.eval) = #[vx, u] := by simp [hu, hh.rd hx]
    rw [e]
    exact hc u w hh.below hg) h
/-- .. the first one -/
theorem chCall_op {f : FuncId} {fn : Func} (hf : P.funcs[f]? = some fn) (hbody : fn.body.isNone = false) (hname : (fn.name == "runtime.NumGoroutine") = false) {x : Operand} {vx : Value} {t : Nat} {ts : Array TypeId} (r : R) (hst : r.ok) (j : Nat) {g : Value → World → Prop}
    (ho : o.op = .call { callee := .value (.func f), args := #[.tmp t, x], argTypes := ts }) (hx : rd (l.take n) l0 kk acc o x = some vx) (hd : depL o j = true) (hj : look kk acc j = some (.op g)) (ht : (l[j]?).map (·.dst) = some (some t)) (hw : wants kk acc o = some true) (hk : gOk l o = true)
    (hc : ∀ u w, Below W.heap.size W w → g u w → Calls P f #[u, vx] w fun e w' => ∃ v, e = .returned v ∧ r.holds v w' ∧ Below w.heap.size w w')
    (h : ChainR n P l.toArray W ⟨l0.toArray, ds⟩ (kk + 1) (r :: acc) rest fin) : ChainR n P l.toArray W ⟨l0.toArray, ds⟩ kk acc (o :: rest) fin :=
  chCallA (r := r) (by rw [ho]; rfl) hw hk hst hf hbody hname ho (fun a w hh => by
    obtain ⟨u, hu, hg⟩ := hh.op j t hd hj ht
    have e : (#[Operand.tmp t, x].map a.eval) = #[u, vx] := by simp [hu, hh.rd hx]
    rw [e]
    exact hc u w hh.below hg) h
/-- .. both -/
theorem chCall_oo {f : FuncId} {fn : Func} (hf : P.funcs[f]? = some fn) (hbody : fn.body.isNone = false) (hname : (fn.name == "runtime.NumGoroutine") = false) {t t2 : Nat} {ts : Array TypeId} (r : R) (hst : r.ok) (j j2 : Nat) {g g2 : Value → World → Prop}
    (ho : o.op = .call { callee := .value (.func f), args := #[.tmp t, .tmp t2], argTypes := ts }) (hd : depL o j = true) (hj : look kk acc j = some (.op g)) (ht : (l[j]?).map (·.dst) = some (some t)) (hd2 : depL o j2 = true) (hj2 : look kk acc j2 = some (.op g2)) (ht2 : (l[j2]?).map (·.dst) = some (some t2)) (hw : wants kk acc o = some true) (hk : gOk l o = true)
    (hc : ∀ u u2 w, Below W.heap.size W w → g u w → g2 u2 w → Calls P f #[u, u2] w fun e w' => ∃ v, e = .returned v ∧ r.holds v w' ∧ Below w.heap.size w w')
    (h : ChainR n P l.toArray W ⟨l0.toArray, ds⟩ (kk + 1) (r :: acc) rest fin) : ChainR n P l.toArray W ⟨l0.toArray, ds⟩ kk acc (o :: rest) fin :=
  chCallA (r := r) (by rw [ho]; rfl) hw hk hst hf hbody hname ho (fun a w hh => by
    obtain ⟨u, hu, hg⟩ := hh.op j t hd hj ht
    obtain ⟨u2, hu2, hg2⟩ := hh.op j2 t2 hd2 hj2 ht2
    have e : (#[Operand.tmp t, Operand.tmp t2].map a.eval) = #[u, u2] := by simp [hu, hu2]
    rw [e]
    exact hc u u2 w hh.below hg hg2) h
end
/-- a slice's elements do not lie where its first one does not -/
theorem SlR.far {w w' : World} {v : Value} {sz n : Nat} {cs : List Value} {g : Nat} {T : TypeId} {ds : List Value} (h : SlR w v sz n cs) (H : Blk w g T ds) (hc : ∀ (i : Nat) (u : Value), cs[0]? = some u → ds[i]? ≠ some u) (hg : w.grownBy w' (some g)) : SlR w' v sz n cs := by
  refine ⟨h.1, ?_⟩
  rcases h.2 with h2 | ⟨x, cap, rfl, h3, h4, h5⟩
  · exact .inl h2
  · refine .inr ⟨x, cap, rfl, h3, h4, fun i u hu => ?_⟩
    have h0 : 0 < cs.length := by have := (List.getElem?_eq_some_iff.1 hu).1; omega
    have hne : x.block ≠ g := by
      intro e
      have h1 := h5 0 cs[0] (List.getElem?_eq_getElem h0)
      have h2 : x.add 0 = x := by simp [Addr.add]
      rw [h2] at h1
      cases x with
      | mk b o s =>
        simp only at e
        subst e
        have hs : s = none := by
          cases s with
          | none => rfl
          | some q =>
            exfalso
            have hb : w.heap[b]? = some (.cells ds.toArray T (0, 0)) := H
            simp [World.cell?, hb] at h1
        subst hs
        rw [H.cell] at h1
        exact hc _ _ (List.getElem?_eq_getElem h0) h1
    have := h5 i u hu
    refine hg.cell this ?_
    intro e
    apply hne
    have e2 : (x.add i).block = x.block := by unfold Addr.add; split <;> rfl
    rw [← e2]; exact Option.some.inj e
end Agg
end
