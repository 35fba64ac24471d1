/-
  DEVICES: the document's Flush.
-/
import Derived.Test.YtapdigcpaebjiaaDvS
namespace Go.Proofs.Ytapdigcpaebjiaa
open Go.ChangeShapes Go.WideShapes Go.ChangeAt Go.RowKit Agg Pg Dv

theorem mixB_15 (old new : List Sec) (h : new.length = 4) : mixB old new 15 = new := by
  match new, h with
  | [a, b, c, d], _ => rfl
theorem settle_all (Q : List (List Sec)) (p : Nat) (b : List Sec) (h : b.length = 4) : settle Q ((p : Int), b) 15 = Q.set p b := by
  unfold settle
  rw [mixB_15 _ _ h, Int.toNat_natCast]
theorem pgs_put (P : List (List Sec)) (hP : ∀ b ∈ P, BOk b) (p : Nat) (h : p < P.length) (b : List Sec) (hb : BOk b) (r : List Value) :
    spliced (P.flatMap blkC ++ r) (p * 132) (blkC b) = (P.set p b).flatMap blkC ++ r := by
  have hl : ((P.take p).flatMap blkC).length = p * 132 := by rw [flat_len blkC 132 _ (fun b hb => bok_cells (hP b (List.mem_of_mem_take hb))), List.length_take]; congr 1; omega
  have e2 : P.set p b = P.take p ++ (b :: P.drop (p + 1)) := by rw [List.set_eq_take_append_cons_drop, if_pos h]
  rw [pgs_cut P p h, e2, List.flatMap_append, List.flatMap_cons, List.append_assoc, List.append_assoc, ← List.append_assoc, spliced_mid _ _ _ _ _ hl (by rw [bok_cells hb, bok_cells (hP _ (List.getElem_mem h))])]
  simp only [List.append_assoc]
set_option maxHeartbeats 4000000 in
set_option maxRecDepth 100000 in
theorem rFlush_any (P : List (List Sec)) (l : List (Int × List Sec)) (z : Int) (q : Bool) (x y : Option Addr) (cap cm : Nat) (w : World)
    (hd1 : P.length ≤ 1000000) (hd2 : l.length ≤ 1000000) (hp : Pgs w (.slice x P.length cap) P) (hv : Wrs w (.slice y l.length cm) l) (hP : ∀ b ∈ P, BOk b) (hC : ∀ x ∈ l, BOk x.2) :
    Calls Try.prog 28 #[.agg #[.slice x P.length cap, .slice y l.length cm, .int .i64 z, .bool q]] w fun e w' => ∃ v, e = .returned (.tuple #[v, .int .i64 (goesP ⟨P, l, z, q⟩ (flushP ⟨P, l, z, q⟩)).1]) ∧ DevR w' v (goesP ⟨P, l, z, q⟩ (flushP ⟨P, l, z, q⟩)).2 ∧ Below w.heap.size w w' := by
  have HP := Lib.hid hp
  have HV := Lib.hid hv
  have HP0 := HP
  have HV0 := HV
  have HCB := Lib.hid hC
  have HPB := Lib.hid hP
  have HD1 := Lib.hid hd1
  have HD2 := Lib.hid hd2
  have HPN : Hid ((P.length : Int) ≤ 9223372036854775807) := Lib.hid (by omega)
  obtain ⟨rd, hrd⟩ : ∃ b, rightD ⟨P, l, z, q⟩ = b := ⟨_, rfl⟩
  have HRD := Lib.hid hrd
  have HEE : Hid ((headD P.length z q && allD P.length l) = rd) := Lib.hid (by rw [← hrd, rightD_eq])
  obtain ⟨g, hg⟩ : ∃ g, goesP ⟨P, l, z, q⟩ (flushP ⟨P, l, z, q⟩) = g := ⟨_, rfl⟩
  rw [hg]
  have HG := Lib.hid hg
  clear hp hv hP hC hd1 hd2 hrd hg
  have HB := Lib.hid (Below.refl w.heap.size w)
  go_enter Try.func28, Try.ntmps28
  go_upto_region 1 with (fail)
  refine Agg.wp_at fun w1 hw1 => ?_
  have hb : Below w.heap.size w w1 := by rw [hw1.out]; repeat (first | exact Below.refl _ _ | refine Agg.bel_drew ?_ | refine Agg.bel_alloc ?_ _)
  replace HB := Lib.hid (HB.out.trans (hb.mono HB.out.size))
  replace HP := Lib.hid (HP.out.keep hb)
  replace HV := Lib.hid (HV.out.keep hb)
  clear hb
  have H1 : Hid (Blk w1 w.heap.size 36 [.slice x P.length cap, .slice y l.length cm, .int .i64 z, .bool q]) := by show Blk _ _ _ _; rw [hw1.out]; exact (Blk.new w 36 #[.slice x P.length cap, .slice y l.length cm, .int .i64 z, .bool q]).al _
  have H2 : Hid (Blk w1 (w.heap.size + 1) 36 [.slice none 0 0, .slice none 0 0, .int .i64 0, .bool false]) := by show Blk _ _ _ _; rw [hw1.out]; exact Blk.newAt (w.alloc _) 36 #[.slice none 0 0, .slice none 0 0, .int .i64 0, .bool false] _ (by simp)
  clear hw1
  have xH1_0 := H1.out.cell 0
  have xH1_1 := H1.out.cell 1
  have xH1_2 := H1.out.cell 2
  have xH1_3 := H1.out.cell 3
  have lH1 := H1.out.lt
  simp only [List.getElem?_cons_zero, List.getElem?_cons_succ] at xH1_0 xH1_1 xH1_2 xH1_3
  go_wp2_with fail
  clear xH1_0 xH1_1 xH1_2 xH1_3 lH1
  refine (right_D x y P.length cap cm l z q w1 HPN.out HCB.out HV.out rd HEE.out).mono ?_
  rintro e w2 ⟨rfl, hb⟩
  replace HB := Lib.hid (HB.out.trans (hb.mono HB.out.size))
  replace HP := Lib.hid (HP.out.keep hb)
  replace HV := Lib.hid (HV.out.keep hb)
  replace H1 := Lib.hid (H1.out.keep hb)
  replace H2 := Lib.hid (H2.out.keep hb)
  clear hb
  have l2 := H2.out.lt
  have hsz := HB.out.size
  have h2 := H2.out
  cases rd
  · have hg := HG.out
    rw [goesP, if_pos HRD.out] at hg
    subst hg
    go_wp2_with (first
      | (refine Agg.gBuild0 (.agg #[.slice none 0 0, .slice none 0 0, .int .i64 0, .bool false]) rfl rfl (fun W => zero_dev W) ?_; simp only [Act.put, List.setIfInBounds_toArray, List.set_cons_succ, List.set_cons_zero])
      | (refine Agg.gStoreB 4 [.slice none 0 0, .slice none 0 0, .int .i64 0, .bool false] h2 rfl rfl rfl rfl rfl (by decide +kernel) rfl rfl (by simp [Value.oneCell']) (fun w14 hb14 hg14 => ?_)))
    refine bodyPost_ret (results_row2 (m := 4) rfl hb14 rfl (by decide +kernel) rfl) rfl ⟨_, rfl, devR_zero _, ?_⟩
    exact HB.out.trans (grown_below hg14 HB.out.size (fun j hj => (by cases hj; omega)))
  · have hg := HG.out
    rw [goesP, if_neg (by rw [HRD.out]; decide)] at hg
    clear HG HEE
    have xH1_0 := H1.out.cell 0
    have xH1_1 := H1.out.cell 1
    have xH1_2 := H1.out.cell 2
    have xH1_3 := H1.out.cell 3
    have lH1 := H1.out.lt
    simp only [List.getElem?_cons_zero, List.getElem?_cons_succ] at xH1_0 xH1_1 xH1_2 xH1_3
    cases q
    · rw [if_neg (Bool.false_ne_true)] at hg
      simp only [flushP, ne_eq] at hg
      obtain ⟨fo, hf⟩ : ∃ fo, burnF z false = fo := ⟨_, rfl⟩
      obtain ⟨f, o⟩ := fo
      have HF := Lib.hid hf
      simp only [burnD, hf] at hg
      have HON : Hid (decide (z ≠ 0) = !o) := Lib.hid (by
        rw [burnF] at hf
        by_cases h0 : z = 0
        · rw [if_pos h0] at hf; cases hf; simp [h0]
        · rw [if_neg h0] at hf
          split at hf <;> cases hf <;> simp [h0])
      have hz2 := (right_parts HRD.out).2.2.2.1
      clear hf
      have HFR : Hid (From w2 w2) := Lib.hid (Below.refl _ _)
      obtain ⟨B, hB⟩ : ∃ B, w2.heap.size = B := ⟨_, rfl⟩
      have l2 := H2.out.lt
      go_wp2_with fail
      clear xH1_0 xH1_1 xH1_2 xH1_3 lH1
      refine (copy_D x y cap cm P l z false w2 HD1.out HD2.out HP.out HV.out).mono ?_
      rintro e w3 ⟨p, c, rfl, hp, hc, hb⟩
      replace HB := Lib.hid (HB.out.trans (hb.mono HB.out.size))
      replace HP := Lib.hid (HP.out.keep hb)
      replace HV := Lib.hid (HV.out.keep hb)
      replace H1 := Lib.hid (H1.out.keep hb)
      replace H2 := Lib.hid (H2.out.keep hb)
      replace HFR := Lib.hid (HFR.out.keep hb)
      clear hb
      have HPO := Lib.hid hp
      have HCO := Lib.hid hc
      rw [hB] at HPO HCO l2
      obtain ⟨px, pc, rfl, _, _⟩ := (ownSl hp).shape
      obtain ⟨cx, cc, rfl, _, _⟩ := (ownSl hc).shape
      clear hp hc
      go_wp2_with fail
      refine (rburns_any px cx P.length pc l.length cc z false w3 hz2 f o HF.out (!o) HON.out).mono ?_
      rintro e w4 ⟨rfl, hb⟩
      replace HB := Lib.hid (HB.out.trans (hb.mono HB.out.size))
      replace HP := Lib.hid (HP.out.keep hb)
      replace HV := Lib.hid (HV.out.keep hb)
      replace H1 := Lib.hid (H1.out.keep hb)
      replace H2 := Lib.hid (H2.out.keep hb)
      replace HPO := Lib.hid (HPO.out.keep hb)
      replace HCO := Lib.hid (HCO.out.keep hb)
      replace HFR := Lib.hid (HFR.out.keep hb)
      clear hb
      have hB3 : B ≤ w4.heap.size := by have h := HFR.out; unfold From at h; rw [← hB]; exact h.size
      clear HFR hB
      cases o
      · rw [show (!false) = true from rfl]
        simp only [Bool.false_eq_true, if_false, not_true, false_and] at hg
        subst hg
        have h1 := H1.out
        go_upto_region 8 with (refine Agg.gStoreB 4 [.slice px P.length pc, .slice cx l.length cc, .int .i64 f, .bool false] h1 rfl rfl rfl rfl rfl (by decide +kernel) rfl rfl (by simp [Value.oneCell']) (fun w14 hb14 hg14 => ?_); clear h1)
        have hbA := HB.out.trans (grown_below hg14 HB.out.size (fun j hj => (by cases hj; omega)))
        have hp14 := HPO.out.kept hg14 (own_off HPO.out (by omega))
        have hc14 := HCO.out.kept hg14 (own_off HCO.out (by omega))
        have h214 := H2.out.far' hg14 (by omega)
        replace HB := Lib.hid hbA
        replace HPO := Lib.hid hp14
        replace HCO := Lib.hid hc14
        replace H1 := Lib.hid hb14
        replace H2 := Lib.hid h214
        have hB4 : B ≤ w14.heap.size := Nat.le_trans hB3 hg14.size
        clear hbA hp14 hc14 h214 hg14 hb14 HP HV hB3
        have hB9 : B ≤ w14.heap.size := hB4
        have h24 := (right_parts HRD.out).1
        have HINR := Lib.hid (right_parts HRD.out).2.2.2.2
        have HW : Hid (∀ x ∈ l, (wrC x).length = 133) := Lib.hid (fun x hx => wrC_length x (HCB.out x hx))
        obtain ⟨gg, o', pc', hve, _, _, _, _⟩ := SlR.pos (ownSl HPO.out) (by decide) (by omega)
        simp only [Value.slice.injEq, true_and] at hve
        obtain ⟨rfl, rfl⟩ := hve
        obtain rfl : o' = 0 := by
          rcases HPO.out.2 with ⟨h, _⟩ | ⟨g', cap', cur, h, _⟩
          · cases h
          · cases h; rfl
        obtain ⟨r, hk0, hbg, hpc1, hpc2, hrl⟩ := own_blk HPO.out
        have HRL := Lib.hid (And.intro hbg (And.intro hpc1 (And.intro hpc2 hrl)))
        have HK0 := Lib.hid hk0
        have hln : (l.length : Int) ≤ 1000000 := by have := HD2.out; omega
        clear hk0 hpc1 hpc2 hrl HPO
        have xH1_0 := H1.out.cell 0
        have xH1_1 := H1.out.cell 1
        have xH1_2 := H1.out.cell 2
        have xH1_3 := H1.out.cell 3
        have lH1 := H1.out.lt
        simp only [List.getElem?_cons_zero, List.getElem?_cons_succ] at xH1_0 xH1_1 xH1_2 xH1_3
        go_upto_region 9 with (fail)
        clear xH1_0 xH1_1 xH1_2 xH1_3 lH1
        go_loopw [28, 6] (fun i _ wr => ∃ k : Nat, k ≤ l.length ∧ i = .int .i64 k ∧ Below w.heap.size w wr ∧ Blk wr w.heap.size 36 [.slice (some ⟨gg, 0, none⟩) P.length pc, .slice cx l.length cc, .int .i64 f, .bool false] ∧ Blk wr (w.heap.size + 1) 36 [.slice none 0 0, .slice none 0 0, .int .i64 0, .bool false] ∧ Blk wr gg 46 ((settleAll P (l.take k)).flatMap blkC ++ r) ∧ wr.ownsRow B 48 133 (.slice cx l.length cc) l.length (l.flatMap wrC)) (fun i _ _ => l.length - (intOf i).toNat)
        case atStart => exact ⟨0, by omega, rfl, HB.out, H1.out, H2.out, HK0.out, HCO.out⟩
        case round =>
          obtain ⟨k, hk, rfl, hb, h1, h2, h3, h4⟩ := hrel
          replace HB := Lib.hid hb
          replace H1 := Lib.hid h1
          replace H2 := Lib.hid h2
          have HG := Lib.hid h3
          replace HCO := Lib.hid h4
          have HSO := Lib.hid (settleAll_ok HPB.out (l.take k) (fun x hx => HCB.out x (List.mem_of_mem_take hx)))
          clear hb h1 h2 h3 h4
          obtain ⟨wA, hwA⟩ : ∃ x, x = wr := ⟨_, rfl⟩
          subst hwA
          by_cases hlt : k < l.length
          · obtain ⟨b2, o2, cap2, hve, _, _, _, _⟩ := SlR.pos (ownSl HCO.out) (by decide) (by omega)
            simp only [Value.slice.injEq, true_and] at hve
            obtain ⟨rfl, rfl⟩ := hve
            have hcs := flat_at wrC 133 (by decide) (ownSl HCO.out) HW.out hlt
            have h133 := HW.out _ (List.getElem_mem hlt)
            have h1 := wrC_one l[k]
            have HBO2 := Lib.hid (HCB.out _ (List.getElem_mem hlt))
            have HTH := Lib.hid (HINR.out _ (List.getElem_mem hlt))
            have HST := Lib.hid (settleAll_take P l k hlt)
            generalize l[k] = u at *
            generalize settleAll P (l.take k) = Q at *
            obtain ⟨uk, ub⟩ := u
            obtain ⟨p, hp1, hp2⟩ := there_nat HTH.out
            dsimp only at hp1
            subst hp1
            rw [← HSO.out.1] at hp2
            have HQ : Hid (settle Q ((p : Int), ub) 15 = Q.set p ub) := Lib.hid (settle_all Q p ub HBO2.out.1)
            have hpn : (p : Int) < P.length := by have := HSO.out.1; omega
            go_upto_region 11 with (first
              | (refine Agg.gLoad 133 (wrC ((p : Int), ub)) rfl rfl rfl (by decide +kernel) h133 hcs ?_; simp only [Act.put, List.setIfInBounds_toArray, List.set_cons_succ, List.set_cons_zero])
              | (refine Agg.allocRow 48 wr0.toArray rfl rfl (by kernel_rfl) ?_; simp only [Act.put, List.setIfInBounds_toArray, List.set_cons_succ, List.set_cons_zero])
              | (refine Agg.gStoreNew 133 (wrC ((p : Int), ub)) rfl rfl rfl rfl rfl rfl (by decide +kernel) h133 wr0_size h1 ?_; simp only [Act.put]))
            have HBX := Lib.hid (Blk.new wA 48 (wrC ((p : Int), ub)).toArray)
            have hbA : Below wA.heap.size wA (wA.alloc (.cells (wrC ((p : Int), ub)).toArray 48)) := (Below.refl _ _).alloc (Nat.le_refl _) _
            have HBB := Lib.hid (HB.out.trans (hbA.mono HB.out.size))
            have H1B := Lib.hid (H1.out.keep hbA)
            have H2B := Lib.hid (H2.out.keep hbA)
            have HGB := Lib.hid (HG.out.keep hbA)
            have HCB2 := Lib.hid (own_keep HCO.out hbA)
            have HGS := Lib.hid HG.out.lt
            refine Agg.wp_at fun wB hwB => ?_
            rw [← hwB.out] at HBX H1B H2B HGB HCB2 HBB
            clear hwB hcs h1 h133 hbA HB H1 H2 HG HCO
            have e0 := HBX.out.cell 0
            simp only [wrC, List.getElem?_cons_zero] at e0
            have h132 := bok_cells HBO2.out
            have hc132 : ∀ i v, (blkC ub)[i]? = some v → wB.cell? ⟨wA.heap.size, 1 + i, none⟩ = some v := fun i v hi => by
              rw [HBX.out.cell, show 1 + i = i + 1 by omega]; exact hi
            have hgb := HGB.out
            have hfit : p * 132 + 132 ≤ (Q.flatMap blkC ++ r).length := by
              rw [List.length_append, flat_len blkC 132 _ (fun b hb => bok_cells (HSO.out.2 b hb))]
              have : (p + 1) * 132 ≤ Q.length * 132 := Nat.mul_le_mul_right _ hp2
              omega
            have HPUT := Lib.hid (pgs_put Q HSO.out.2 p hp2 ub HBO2.out r)
            have xH1B_0 := H1B.out.cell 0
            have xH1B_1 := H1B.out.cell 1
            have xH1B_2 := H1B.out.cell 2
            have xH1B_3 := H1B.out.cell 3
            have lH1B := H1B.out.lt
            simp only [List.getElem?_cons_zero, List.getElem?_cons_succ] at xH1B_0 xH1B_1 xH1B_2 xH1B_3
            go_upto_region 12 with (first
              | (refine Agg.gLoad 132 (blkC ub) rfl rfl rfl (by decide +kernel) h132 hc132 ?_; simp only [Act.put, List.setIfInBounds_toArray, List.set_cons_succ, List.set_cons_zero])
              | (refine Agg.gStoreMid 132 (p * 132) (blkC ub) hgb rfl rfl rfl rfl rfl (by decide +kernel) h132 hfit (blkC_one _) (fun w16 hb16 hg16 => ?_)))
            rw [HPUT.out] at hb16
            have hBX := HBB.out.size
            have h1c := H1B.out.far' hg16 (by omega)
            have h2c := H2B.out.far' hg16 (by omega)
            have hcc := HCB2.out.kept hg16 (own_apart HCB2.out HGB.out (Ne.symm bWne))
            have hbc := HBB.out.trans (grown_below hg16 hBX (fun j hj => by cases hj; omega))
            clear xH1B_0 xH1B_1 xH1B_2 xH1B_3 lH1B
            go_wp2_with fail
            go_roundw
            case rel => exact ⟨k + 1, by omega, by go_num, hbc, h1c, h2c, by rw [HST.out, HQ.out]; exact hb16, hcc⟩
            case measure => simp [intOf]; omega
          · obtain rfl : k = l.length := by omega
            rw [List.take_length] at HSO HG
            have h1 := H1.out
            have h2 := H2.out
            have hsz4 := HB.out.size
            go_wp2_with (first
              | (refine Agg.gStoreCell 1 (.slice none 0 0) h1 rfl rfl rfl rfl rfl (by kernel_rfl) rfl (by simp) rfl (fun w15 hb15 hg15 => ?_); clear h1; replace h2 := h2.far' hg15 (by omega); simp only [spliced, List.take_succ_cons, List.take_zero, List.drop_succ_cons, List.drop_zero, List.length_cons, List.length_nil, List.cons_append, List.nil_append] at hb15)
              | (refine Agg.gLoadB 4 hb15 rfl rfl rfl rfl (by decide +kernel) ?_; simp only [Act.put, List.setIfInBounds_toArray, List.set_cons_succ, List.set_cons_zero])
              | (refine Agg.gStoreB 4 [.slice (some ⟨gg, 0, none⟩) P.length pc, .slice none 0 0, .int .i64 f, .bool false] h2 rfl rfl rfl rfl rfl (by decide +kernel) rfl rfl (by simp [Value.oneCell']) (fun w16 hb16 hg16 => ?_)))
            have hb5 := HB.out.trans (grown_below hg15 HB.out.size (fun j hj => by cases hj; omega))
            have hb6 := hb5.trans (grown_below hg16 hb5.size (fun j hj => by cases hj; omega))
            have hg6 := (HG.out.far' hg15 (by omega)).far' hg16 (by omega)
            have HO7 := blk_own hg6 hbg HRL.out.2.1 HRL.out.2.2.1 (sz := 132) (n := P.length) (by rw [List.length_append, flat_len blkC 132 _ (fun b hb => bok_cells (HSO.out.2 b hb)), HSO.out.1, ← flat_len blkC 132 P (fun b hb => bok_cells (HPB.out b hb)), ← List.length_append]; exact HRL.out.2.2.2) (by rw [flat_len blkC 132 _ (fun b hb => bok_cells (HSO.out.2 b hb)), HSO.out.1])
            refine bodyPost_ret (results_row2 (m := 4) rfl hb16 rfl (by decide +kernel) rfl) rfl ⟨_, rfl, DevO.read (base := B) ⟨.slice (some ⟨gg, 0, none⟩) P.length pc, .slice none 0 0, rfl, ?_, World.ownsRow_nil _ _ _ _⟩, hb6⟩
            show w16.ownsRow B _ 132 _ (settleAll P l).length _
            rw [HSO.out.1]
            exact HO7
      · rw [show (!true) = false from rfl]
        simp only [if_true] at hg
        rw [if_neg (by simp)] at hg
        subst hg
        have h1 := H1.out
        have h2 := H2.out
        go_wp2_with (first
          | (refine Agg.gStoreB 4 [.slice px P.length pc, .slice cx l.length cc, .int .i64 f, .bool true] h1 rfl rfl rfl rfl rfl (by decide +kernel) rfl rfl (by simp [Value.oneCell']) (fun w14 hb14 hg14 => ?_); clear h1; replace h2 := h2.far' hg14 (by omega))
          | (refine Agg.gLoadB 4 hb14 rfl rfl rfl rfl (by decide +kernel) ?_; simp only [Act.put, List.setIfInBounds_toArray, List.set_cons_succ, List.set_cons_zero])
          | (refine Agg.gStoreB 4 [.slice px P.length pc, .slice cx l.length cc, .int .i64 f, .bool true] h2 rfl rfl rfl rfl rfl (by decide +kernel) rfl rfl (by simp [Value.oneCell']) (fun w15 hb15 hg15 => ?_)))
        have hbA := HB.out.trans (grown_below hg14 HB.out.size (fun j hj => (by cases hj; omega)))
        have hbC := hbA.trans (grown_below hg15 hbA.size (fun j hj => (by cases hj; omega)))
        have hp := (HPO.out.kept hg14 (own_off HPO.out (by omega))).kept hg15 (own_off HPO.out (by omega))
        have hc := (HCO.out.kept hg14 (own_off HCO.out (by omega))).kept hg15 (own_off HCO.out (by omega))
        refine bodyPost_ret (results_row2 (m := 4) rfl hb15 rfl (by decide +kernel) rfl) rfl ⟨_, rfl, ⟨px, cx, pc, cc, rfl, ownSl hp, ownSl hc⟩, hbC⟩
    · rw [if_pos rfl] at hg
      subst hg
      have h1 := H1.out
      have h2 := H2.out
      go_wp2_with (first
        | (refine Agg.gStoreB 4 [.slice x P.length cap, .slice y l.length cm, .int .i64 z, .bool true] h2 rfl rfl rfl rfl rfl (by decide +kernel) rfl rfl (by simp [Value.oneCell']) (fun w14 hb14 hg14 => ?_)))
      have hbC := HB.out.trans (grown_below hg14 HB.out.size (fun j hj => (by cases hj; omega)))
      refine bodyPost_ret (results_row2 (m := 4) rfl hb14 rfl (by decide +kernel) rfl) rfl ⟨_, rfl, ⟨x, y, cap, cm, rfl, SlR.keep HP0.out hbC, SlR.keep HV0.out hbC⟩, hbC⟩
end Go.Proofs.Ytapdigcpaebjiaa
