/-
  THE WALK OF LAYER 16's STATEMENT DeviceTells.
-/
import Derived.Test.YtapdigcpaebjiaaDwB
import Derived.Test.YtapdigcpaebjiaaDwP
import Derived.Test.YtapdigcpaebjiaaChain3
namespace Go.Proofs.Ytapdigcpaebjiaa
open Go.ChangeShapes Go.WideShapes Go.ChangeAt Go.RowKit Agg Pg Dv

theorem LaidOk.keep' {w w' : World} {x : LaidD} {fv cv : Value} (h : LaidOk w x fv cv) (hb : Below w.heap.size w w') : LaidOk w' x fv cv := h.keep hb
theorem new_No (k : Int) (h : k < 24 ∨ 256 < k) (w : World) :
    Calls Try.prog 14 #[.int .i64 k] w fun e w' => e = .returned (.tuple #[.agg #[.slice none 0 0, .slice none 0 0, .int .i64 0, .bool false], .int .i64 2]) ∧ Below w.heap.size w w' := new_bad k h w
set_option maxHeartbeats 8000000 in
set_option maxRecDepth 100000 in
theorem tells_walk (x : LaidD) (fv cv : Value) (y : LaidD) (fv2 cv2 : Value) (l : List Int) (sx : Option Addr) (m cap : Nat) (w : World) (hx : LaidOk w x fv cv) (hy : LaidOk w y fv2 cv2) (hl : Ints w (.slice sx m cap) l) :
    Calls Try.prog 6 #[.agg (laidC x fv cv).toArray, .agg (laidC y fv2 cv2).toArray, .slice sx m cap] w fun e w' => e = .returned (.bool true) ∧ Below w.heap.size w w' := by
  obtain ⟨_, _, hlx, hl1, hl2⟩ := hl.shape
  cases hlx
  have HL := Lib.hid hl
  have HLN : Hid ((l.length : Int) ≤ 9223372036854775807) := Lib.hid (by unfold maxLen at hl2; omega)
  have HX := Lib.hid hx
  have HY := Lib.hid hy
  have G1 := Lib.hid (laid_good hx)
  have G2 := Lib.hid (laid_good hy)
  have C1 : Hid ((laidD x).cache.length ≤ 1000000) := Lib.hid (Nat.le_trans (laid_few x) (by decide))
  have C2 : Hid ((laidD y).cache.length ≤ 1000000) := Lib.hid (Nat.le_trans (laid_few y) (by decide))
  obtain ⟨d, hd⟩ : ∃ d, laidD x = d := ⟨_, rfl⟩
  obtain ⟨o, ho⟩ : ∃ d, laidD y = d := ⟨_, rfl⟩
  have HDX : Hid (∀ W, LaidOk W x fv cv → Calls Try.prog 10 #[.agg (laidC x fv cv).toArray] W fun e w' => ∃ v, e = .returned v ∧ DevRV d v w' ∧ Below W.heap.size W w') := Lib.hid (fun W h => by have := device_RR h; rwa [hd] at this)
  have HDY : Hid (∀ W, LaidOk W y fv2 cv2 → Calls Try.prog 10 #[.agg (laidC y fv2 cv2).toArray] W fun e w' => ∃ v, e = .returned v ∧ DevRV o v w' ∧ Below W.heap.size W w') := Lib.hid (fun W h => by have := device_RR h; rwa [ho] at this)
  rw [hd] at G1 C1
  rw [ho] at G2 C2
  have HLC : Hid ((laidC x fv cv).length = 5) := Lib.hid rfl
  have HLC2 : Hid ((laidC y fv2 cv2).length = 5) := Lib.hid rfl
  obtain ⟨sm, hsm⟩ : ∃ sm : Bool, sm = true ↔ d = o := (Classical.em (d = o)).elim (fun e => ⟨true, by simp [e]⟩) (fun e => ⟨false, by simp [e]⟩)
  have HSM := Lib.hid hsm
  obtain ⟨rd, hrd⟩ : ∃ b, rightD d = b := ⟨_, rfl⟩
  have HRD := Lib.hid hrd
  clear hx hy hl hd ho hsm hrd hl1 hl2
  have HB := Lib.hid (Below.refl w.heap.size w)
  go_enter Try.func6, Try.ntmps6
  go_upto_region 1 with (fail)
  refine Agg.wp_at fun w1 hw1 => ?_
  have hb : Below w.heap.size w w1 := by rw [hw1.out]; repeat (first | exact Below.refl _ _ | refine Agg.bel_drew ?_ | refine Agg.bel_alloc ?_ _)
  replace HB := Lib.hid (HB.out.trans (hb.mono HB.out.size))
  replace HX := Lib.hid (HX.out.keep hb)
  replace HY := Lib.hid (HY.out.keep hb)
  replace HL := Lib.hid (HL.out.keep hb)
  clear hb
  have H3 : Hid (Blk w1 w.heap.size 24 (laidC x fv cv)) := by show Blk _ _ _ _; rw [hw1.out]; exact (Blk.new w 24 (laidC x fv cv).toArray).al _
  have H4 : Hid (Blk w1 (w.heap.size + 1) 24 (laidC y fv2 cv2)) := by show Blk _ _ _ _; rw [hw1.out]; exact Blk.newAt (w.alloc _) 24 (laidC y fv2 cv2).toArray _ (by simp)
  clear hw1
  go_wp2_with fail
  refine (wakes_any w1).mono ?_
  rintro e w2 ⟨rfl, hb⟩
  replace HB := Lib.hid (HB.out.trans (hb.mono HB.out.size))
  replace HX := Lib.hid (HX.out.keep hb)
  replace HY := Lib.hid (HY.out.keep hb)
  replace HL := Lib.hid (HL.out.keep hb)
  replace H3 := Lib.hid (H3.out.keep hb)
  replace H4 := Lib.hid (H4.out.keep hb)
  clear hb
  go_upto_region 3 with (fail)
  have hsz := HB.out.size
  have h3l := H3.out.lt
  have h4l := H4.out.lt
  refine Agg.chainRD 6 (by kernel_rfl) (by kernel_rfl) ?_
  simp only [List.take_succ_cons, List.take_zero, List.drop_succ_cons, List.drop_zero]
  refine Agg.chRowB 5 H3.out HLC.out (by decide +kernel) rfl rfl rfl rfl ?_
  refine Agg.chCallG Try.func10 rfl (by kernel_rfl) (DevRV d) (DevRV.stable _) rfl rfl rfl rfl (fun W hb => HDX.out W (HX.out.keep hb)) ?_
  refine Agg.chRowB 5 H4.out HLC2.out (by decide +kernel) rfl rfl rfl rfl ?_
  refine Agg.chCallG Try.func10 rfl (by kernel_rfl) (DevRV o) (DevRV.stable _) rfl rfl rfl rfl (fun W hb => HDY.out W (HY.out.keep hb)) ?_
  refine Agg.chAlloc #[.slice none 0 0, .slice none 0 0, .int .i64 0, .bool false] rfl (by kernel_rfl) rfl rfl ?_
  refine Agg.chAlloc #[.slice none 0 0, .slice none 0 0, .int .i64 0, .bool false] rfl (by kernel_rfl) rfl rfl ?_
  refine Agg.chEnd ?_
  intro vs w3 hb hf hap
  simp only [List.reverse, List.reverseAux, Agg.Facts] at hf
  obtain ⟨hb1, hb2, ⟨b7, hv7, hs7, hk7⟩, ⟨b8, hv8, hs8, hk8⟩, _⟩ := hf
  simp only [List.reverse, List.reverseAux, Agg.fill, List.set_cons_succ, List.set_cons_zero, hv7, hv8]
  have h78 : b7 ≠ b8 := by
    have := hap 4 5 _ _ (by decide) rfl rfl rfl rfl rfl rfl
    rw [hv7, hv8] at this
    intro e
    exact this (by rw [e])
  clear hap hv7 hv8
  obtain ⟨px, pc, cx, cc, hu1⟩ := DevR.shape hb1
  obtain ⟨px2, pc2, cx2, cc2, hu2⟩ := DevR.shape hb2
  rw [hu1] at hb1
  rw [hu2] at hb2
  simp only [hu1, hu2]
  refine Agg.tStore 4 hk7 rfl rfl rfl rfl rfl (by decide +kernel) rfl rfl (by simp [Value.oneCell']) (fun z1 hk7' hg7 => ?_)
  have hk8' := hk8.far' hg7 (Ne.symm h78)
  refine Agg.tStore 4 hk8' rfl rfl rfl rfl rfl (by decide +kernel) rfl rfl (by simp [Value.oneCell']) (fun z2 hk8'' hg8 => ?_)
  refine Agg.wpNil ?_
  have HU := Lib.hid ((hb1.far G1.out.ok hk7 hg7).far G1.out.ok hk8' hg8)
  have HV := Lib.hid ((hb2.far G2.out.ok hk7 hg7).far G2.out.ok hk8' hg8)
  have H7 := Lib.hid (hk7'.far' hg8 h78)
  have H8 := Lib.hid hk8''
  have hb0 := bel_grown (bel_grown hb hg7 hs7) hg8 hs8
  replace HB := Lib.hid (HB.out.trans (hb0.mono hsz))
  replace HX := Lib.hid (HX.out.keep hb0)
  replace HL := Lib.hid (HL.out.keep hb0)
  replace H3 := Lib.hid (H3.out.keep hb0)
  clear HY H4 hb h4l h3l hb0 hb1 hb2 hu1 hu2 hk7 hk8 hk7' hk8' hk8'' hg7 hg8 hs7 hs8 h78 hsz HDY HLC2 C2
  have h7 := H7.out
  go_wp2_with (refine Agg.gLoadB 4 h7 rfl rfl rfl rfl (by decide +kernel) ?_; simp only [Act.put, List.setIfInBounds_toArray, List.set_cons_succ, List.set_cons_zero])
  clear h7
  refine (right_R G1.out HU.out).mono ?_
  rintro e w21 ⟨rfl, hb⟩
  replace HB := Lib.hid (HB.out.trans (hb.mono HB.out.size))
  replace HX := Lib.hid (HX.out.keep hb)
  replace HL := Lib.hid (HL.out.keep hb)
  replace H3 := Lib.hid (H3.out.keep hb)
  replace HU := Lib.hid (HU.out.keep hb)
  replace HV := Lib.hid (HV.out.keep hb)
  replace H7 := Lib.hid (H7.out.keep hb)
  replace H8 := Lib.hid (H8.out.keep hb)
  clear hb
  rw [HRD.out]
  have h7 := H7.out
  go_wp2_with (refine Agg.gLoadB 4 h7 rfl rfl rfl rfl (by decide +kernel) ?_; simp only [Act.put, List.setIfInBounds_toArray, List.set_cons_succ, List.set_cons_zero])
  clear h7
  refine (check_R G1.out HU.out).mono ?_
  rintro e w22 ⟨rfl, hb⟩
  replace HB := Lib.hid (HB.out.trans (hb.mono HB.out.size))
  replace HX := Lib.hid (HX.out.keep hb)
  replace HL := Lib.hid (HL.out.keep hb)
  replace H3 := Lib.hid (H3.out.keep hb)
  replace HU := Lib.hid (HU.out.keep hb)
  replace HV := Lib.hid (HV.out.keep hb)
  replace H7 := Lib.hid (H7.out.keep hb)
  replace H8 := Lib.hid (H8.out.keep hb)
  clear hb
  rw [HRD.out]
  obtain ⟨ee, hee⟩ : ∃ e : Int, (if rd = true then (0 : Int) else 260) = e := ⟨_, rfl⟩
  rw [hee]
  have HEE := Lib.hid hee
  clear hee
  go_upto_region 6 with (fail)
  obtain ⟨W0, hW0⟩ : ∃ x, x = w22 := ⟨_, rfl⟩
  have HFR : Hid (From W0 w22) := Lib.hid (by rw [hW0]; exact Below.refl _ _)
  have HBA : Hid (Below w.heap.size w W0) := Lib.hid (by rw [hW0]; exact HB.out)
  have HX0 : Hid (LaidOk W0 x fv cv) := Lib.hid (by rw [hW0]; exact HX.out)
  have HL0 : Hid (Ints W0 (.slice sx l.length cap) l) := Lib.hid (by rw [hW0]; exact HL.out)
  have H30 : Hid (Blk W0 w.heap.size 24 (laidC x fv cv)) := Lib.hid (by rw [hW0]; exact H3.out)
  have H70 : Hid (Blk W0 b7 36 [.slice px d.pages.length pc, .slice cx d.cache.length cc, .int .i64 d.fuse, .bool d.off]) := Lib.hid (by rw [hW0]; exact H7.out)
  have HU0 : Hid (DevR W0 (.agg #[.slice px d.pages.length pc, .slice cx d.cache.length cc, .int .i64 d.fuse, .bool d.off]) d) := Lib.hid (by rw [hW0]; exact HU.out)
  clear hW0
  go_cut [55] from 28 to 55 (fun v wx => v = .bool false ∧ From W0 wx)
  case first =>
      cases rd
      · have hee : ee = 260 := HEE.out.symm
        subst hee
        refine Agg.chainR 28 (by kernel_rfl) (by kernel_rfl) ?_
        simp only [List.take_succ_cons, List.take_zero, List.drop_succ_cons, List.drop_zero]
        refine Agg.chMove rfl rfl rfl rfl ?_
        refine Agg.chEq false (by simp) rfl rfl rfl rfl rfl ?_
        refine Agg.chMove rfl rfl rfl rfl ?_
        refine Agg.chNeB false Try.underlying4 rfl rfl rfl rfl rfl rfl ?_
        refine Agg.chMove rfl rfl rfl rfl ?_
        refine Agg.chMove rfl rfl rfl rfl ?_
        refine Agg.chNot rfl rfl rfl rfl ?_
        refine Agg.chMove rfl rfl rfl rfl ?_
        refine Agg.chMove rfl rfl rfl rfl ?_
        refine Agg.chNe false (by simp) rfl rfl rfl rfl rfl ?_
        refine Agg.chPick rfl rfl rfl rfl rfl ?_
        refine Agg.chPick rfl rfl rfl rfl rfl ?_
        refine Agg.chMove rfl rfl rfl rfl ?_
        refine Agg.chRowB 4 H7.out rfl (by decide +kernel) rfl rfl rfl rfl ?_
        refine Agg.chRowB 4 H8.out rfl (by decide +kernel) rfl rfl rfl rfl ?_
        refine Agg.chCall Try.func21 rfl (by kernel_rfl) rfl rfl rfl rfl (fun W hb => same_R G1.out G2.out (DevR.keep HU.out hb) (DevR.keep HV.out hb) sm HSM.out) ?_
        refine Agg.chRowB 4 H7.out rfl (by decide +kernel) rfl rfl rfl rfl ?_
        refine Agg.chRowB 4 H8.out rfl (by decide +kernel) rfl rfl rfl rfl ?_
        refine Agg.chCall Try.func13 rfl (by kernel_rfl) rfl rfl rfl rfl (fun W hb => rSame_R G1.out G2.out (DevR.keep HU.out hb) (DevR.keep HV.out hb) sm HSM.out) ?_
        refine Agg.chNeB false Try.underlying4 (by cases sm <;> rfl) rfl rfl rfl rfl rfl ?_
        refine Agg.chPick rfl rfl rfl rfl rfl ?_
        refine Agg.chMove rfl rfl rfl rfl ?_
        refine Agg.chRowB 4 H7.out rfl (by decide +kernel) rfl rfl rfl rfl ?_
        refine Agg.chRowB 5 H3.out HLC.out (by decide +kernel) rfl rfl rfl rfl ?_
        refine Agg.chCallG Try.func10 rfl (by kernel_rfl) (DevRV d) (DevRV.stable _) rfl rfl rfl rfl (fun W hb => HDX.out W (HX.out.keep hb)) ?_
        refine Agg.chCall2 Try.func21 rfl (by kernel_rfl) (.bool true) 24 rfl rfl rfl rfl rfl rfl rfl (fun u W hb hu => same_R G1.out G1.out (DevR.keep HU.out hb) hu true (by simp)) ?_
        refine Agg.chNot rfl rfl rfl rfl ?_
        refine Agg.chPick rfl rfl rfl rfl rfl ?_
        refine Agg.chEnd ?_
        intro vs w23 hb _
        refine Agg.wpNil ?_
        simp only [List.reverse, List.reverseAux, Agg.fill, List.set_cons_succ, List.set_cons_zero]
        replace HB := Lib.hid (HB.out.trans (hb.mono HB.out.size))
        replace HFR := Lib.hid (HFR.out.keep hb)
        replace HX := Lib.hid (HX.out.keep hb)
        replace HL := Lib.hid (HL.out.keep hb)
        replace H3 := Lib.hid (H3.out.keep hb)
        replace HU := Lib.hid (HU.out.keep hb)
        replace HV := Lib.hid (HV.out.keep hb)
        replace H7 := Lib.hid (H7.out.keep hb)
        replace H8 := Lib.hid (H8.out.keep hb)
        clear hb
        go_wp2_with fail
        go_meet
        exact ⟨rfl, HFR.out⟩
      · have hee : ee = 0 := HEE.out.symm
        subst hee
        refine Agg.chainR 28 (by kernel_rfl) (by kernel_rfl) ?_
        simp only [List.take_succ_cons, List.take_zero, List.drop_succ_cons, List.drop_zero]
        refine Agg.chMove rfl rfl rfl rfl ?_
        refine Agg.chEq true (by simp) rfl rfl rfl rfl rfl ?_
        refine Agg.chMove rfl rfl rfl rfl ?_
        refine Agg.chNeB false Try.underlying4 rfl rfl rfl rfl rfl rfl ?_
        refine Agg.chMove rfl rfl rfl rfl ?_
        refine Agg.chMove rfl rfl rfl rfl ?_
        refine Agg.chNot rfl rfl rfl rfl ?_
        refine Agg.chMove rfl rfl rfl rfl ?_
        refine Agg.chSkip rfl rfl ?_
        refine Agg.chSkip rfl rfl ?_
        refine Agg.chPick rfl rfl rfl rfl rfl ?_
        refine Agg.chPick rfl rfl rfl rfl rfl ?_
        refine Agg.chMove rfl rfl rfl rfl ?_
        refine Agg.chRowB 4 H7.out rfl (by decide +kernel) rfl rfl rfl rfl ?_
        refine Agg.chRowB 4 H8.out rfl (by decide +kernel) rfl rfl rfl rfl ?_
        refine Agg.chCall Try.func21 rfl (by kernel_rfl) rfl rfl rfl rfl (fun W hb => same_R G1.out G2.out (DevR.keep HU.out hb) (DevR.keep HV.out hb) sm HSM.out) ?_
        refine Agg.chRowB 4 H7.out rfl (by decide +kernel) rfl rfl rfl rfl ?_
        refine Agg.chRowB 4 H8.out rfl (by decide +kernel) rfl rfl rfl rfl ?_
        refine Agg.chCall Try.func13 rfl (by kernel_rfl) rfl rfl rfl rfl (fun W hb => rSame_R G1.out G2.out (DevR.keep HU.out hb) (DevR.keep HV.out hb) sm HSM.out) ?_
        refine Agg.chNeB false Try.underlying4 (by cases sm <;> rfl) rfl rfl rfl rfl rfl ?_
        refine Agg.chPick rfl rfl rfl rfl rfl ?_
        refine Agg.chMove rfl rfl rfl rfl ?_
        refine Agg.chRowB 4 H7.out rfl (by decide +kernel) rfl rfl rfl rfl ?_
        refine Agg.chRowB 5 H3.out HLC.out (by decide +kernel) rfl rfl rfl rfl ?_
        refine Agg.chCallG Try.func10 rfl (by kernel_rfl) (DevRV d) (DevRV.stable _) rfl rfl rfl rfl (fun W hb => HDX.out W (HX.out.keep hb)) ?_
        refine Agg.chCall2 Try.func21 rfl (by kernel_rfl) (.bool true) 24 rfl rfl rfl rfl rfl rfl rfl (fun u W hb hu => same_R G1.out G1.out (DevR.keep HU.out hb) hu true (by simp)) ?_
        refine Agg.chNot rfl rfl rfl rfl ?_
        refine Agg.chPick rfl rfl rfl rfl rfl ?_
        refine Agg.chEnd ?_
        intro vs w24 hb _
        refine Agg.wpNil ?_
        simp only [List.reverse, List.reverseAux, Agg.fill, List.set_cons_succ, List.set_cons_zero]
        replace HB := Lib.hid (HB.out.trans (hb.mono HB.out.size))
        replace HFR := Lib.hid (HFR.out.keep hb)
        replace HX := Lib.hid (HX.out.keep hb)
        replace HL := Lib.hid (HL.out.keep hb)
        replace H3 := Lib.hid (H3.out.keep hb)
        replace HU := Lib.hid (HU.out.keep hb)
        replace HV := Lib.hid (HV.out.keep hb)
        replace H7 := Lib.hid (H7.out.keep hb)
        replace H8 := Lib.hid (H8.out.keep hb)
        clear hb
        go_wp2_with fail
        go_meet
        exact ⟨rfl, HFR.out⟩
  case rest =>
    obtain ⟨rfl, hfr⟩ := hcut
    clear HFR HX HL H3 HU HV H7 H8 HB HSM G2
    go_wp2_with fail
    go_loopw [58] (fun i wr => ∃ k : Nat, k ≤ l.length ∧ k ≤ 12 ∧ i = .int .i64 k ∧ From W0 wr) (fun i _ => l.length - (intOf i).toNat)
    case atStart => exact ⟨0, by omega, by omega, rfl, hfr⟩
    case round =>
      obtain ⟨k, hk, hk12, rfl, hfr⟩ := hrel
      have HFR := Lib.hid hfr
      have HB : Hid (Below w.heap.size w wr) := Lib.hid (HBA.out.trans (hfr.mono HBA.out.size))
      clear hfr
      obtain ⟨wA, hwA⟩ : ∃ x, x = wr := ⟨_, rfl⟩
      subst hwA
      have H7 := Lib.hid (H70.out.keep HFR.out)
      have HU := Lib.hid (DevR.keep HU0.out HFR.out)
      by_cases hlt : k < l.length
      · have HL := Lib.hid (SlR.keep HL0.out HFR.out)
        obtain ⟨b, oo, cap', hve, _, _, hcm, _⟩ := SlR.pos HL.out (by decide) (by omega)
        simp only [Value.slice.injEq, true_and] at hve
        obtain ⟨rfl, rfl⟩ := hve
        have hcs : wA.cell? ⟨b, oo + k, none⟩ = some (.int .i64 l[k]) := hcm k _ (by simp [iC, List.getElem?_eq_getElem hlt])
        generalize l[k] = z at *
        by_cases h12 : k = 12
        · subst h12
          have H3 := Lib.hid (H30.out.keep HFR.out)
          have HX := Lib.hid (HX0.out.keep HFR.out)
          go_upto_region 23 with (fail)
          refine Agg.chainR 5 (by kernel_rfl) (by kernel_rfl) ?_
          simp only [List.take_succ_cons, List.take_zero, List.drop_succ_cons, List.drop_zero]
          refine Agg.chRowB 4 H7.out rfl (by decide +kernel) rfl rfl rfl rfl ?_
          refine Agg.chRowB 5 H3.out HLC.out (by decide +kernel) rfl rfl rfl rfl ?_
          refine Agg.chCallG Try.func10 rfl (by kernel_rfl) (DevRV d) (DevRV.stable _) rfl rfl rfl rfl (fun W hb => HDX.out W (HX.out.keep hb)) ?_
          refine Agg.chCall2 Try.func13 rfl (by kernel_rfl) (.bool true) 2 rfl rfl rfl rfl rfl rfl rfl (fun u W hb hu => rSame_R G1.out G1.out (DevR.keep HU.out hb) hu true (by simp)) ?_
          refine Agg.chAssign rfl rfl rfl rfl ?_
          refine Agg.chEnd ?_
          intro vs w31 hb _
          refine Agg.wpNil ?_
          simp only [List.reverse, List.reverseAux, Agg.fill, List.set_cons_succ, List.set_cons_zero]
          replace HB := Lib.hid (HB.out.trans (hb.mono HB.out.size))
          replace HFR := Lib.hid (HFR.out.keep hb)
          replace H7 := Lib.hid (H7.out.keep hb)
          replace HU := Lib.hid (HU.out.keep hb)
          replace H3 := Lib.hid (H3.out.keep hb)
          replace HX := Lib.hid (HX.out.keep hb)
          clear hb
          go_wp2_with fail
          go_ret
          exact ⟨rfl, HB.out⟩
        · have h12b : ((k : Int) == 12) = false := by simp; omega
          obtain ⟨rr, hrr⟩ : ∃ r, readP d z = r := ⟨_, rfl⟩
          have HRR := Lib.hid hrr
          have HRB : Hid (BOk rr.2) := Lib.hid (by rw [← hrr]; exact readP_bok G1.out _)
          clear hrr
          have h7 := H7.out
          go_wp2_with (refine Agg.gLoadB 4 h7 rfl rfl rfl rfl (by decide +kernel) ?_; simp only [Act.put, List.setIfInBounds_toArray, List.set_cons_succ, List.set_cons_zero])
          clear h7 hcs
          refine (read_R G1.out C1.out HU.out z).mono ?_
          rintro e w32 ⟨rfl, hb⟩
          replace HB := Lib.hid (HB.out.trans (hb.mono HB.out.size))
          replace HFR := Lib.hid (HFR.out.keep hb)
          replace H7 := Lib.hid (H7.out.keep hb)
          replace HU := Lib.hid (HU.out.keep hb)
          clear hb
          rw [HRR.out]
          have hls := bok_cells HRB.out
          go_upto_region 13 with (first
            | (refine Agg.allocRow 46 (blkC zeroB).toArray rfl rfl (by kernel_rfl) ?_; simp only [Act.put, List.setIfInBounds_toArray, List.set_cons_succ, List.set_cons_zero])
            | (refine Agg.gStoreNew 132 (blkC rr.2) rfl rfl rfl rfl rfl rfl (by decide +kernel) hls zero132 (blkC_one _) ?_; simp only [Act.put]))
          refine Agg.wp_at fun w33 hw33 => ?_
          have hb : Below w32.heap.size w32 w33 := by rw [hw33.out]; repeat (first | exact Below.refl _ _ | refine Agg.bel_drew ?_ | refine Agg.bel_alloc ?_ _)
          replace HB := Lib.hid (HB.out.trans (hb.mono HB.out.size))
          replace HFR := Lib.hid (HFR.out.keep hb)
          replace H7 := Lib.hid (H7.out.keep hb)
          replace HU := Lib.hid (HU.out.keep hb)
          clear hb
          have H13 : Hid (Blk w33 w32.heap.size 46 (blkC rr.2)) := by show Blk _ _ _ _; rw [hw33.out]; exact Blk.new w32 46 (blkC rr.2).toArray
          clear hw33
          generalize w32.heap.size = g13 at *
          have h7 := H7.out
          go_wp2_with (refine Agg.gLoadB 4 h7 rfl rfl rfl rfl (by decide +kernel) ?_; simp only [Act.put, List.setIfInBounds_toArray, List.set_cons_succ, List.set_cons_zero])
          clear h7
          refine (rRead_R G1.out C1.out HU.out z).mono ?_
          rintro e w34 ⟨rfl, hb⟩
          replace HB := Lib.hid (HB.out.trans (hb.mono HB.out.size))
          replace HFR := Lib.hid (HFR.out.keep hb)
          replace H7 := Lib.hid (H7.out.keep hb)
          replace HU := Lib.hid (HU.out.keep hb)
          replace H13 := Lib.hid (H13.out.keep hb)
          clear hb
          rw [HRR.out]
          go_upto_region 14 with (first
            | (refine Agg.allocRow 46 (blkC zeroB).toArray rfl rfl (by kernel_rfl) ?_; simp only [Act.put, List.setIfInBounds_toArray, List.set_cons_succ, List.set_cons_zero])
            | (refine Agg.gStoreNew 132 (blkC rr.2) rfl rfl rfl rfl rfl rfl (by decide +kernel) hls zero132 (blkC_one _) ?_; simp only [Act.put]))
          refine Agg.wp_at fun w35 hw35 => ?_
          have hb : Below w34.heap.size w34 w35 := by rw [hw35.out]; repeat (first | exact Below.refl _ _ | refine Agg.bel_drew ?_ | refine Agg.bel_alloc ?_ _)
          replace HB := Lib.hid (HB.out.trans (hb.mono HB.out.size))
          replace HFR := Lib.hid (HFR.out.keep hb)
          replace H7 := Lib.hid (H7.out.keep hb)
          replace HU := Lib.hid (HU.out.keep hb)
          replace H13 := Lib.hid (H13.out.keep hb)
          clear hb
          have H15 : Hid (Blk w35 w34.heap.size 46 (blkC rr.2)) := by show Blk _ _ _ _; rw [hw35.out]; exact Blk.new w34 46 (blkC rr.2).toArray
          clear hw35 hls
          generalize w34.heap.size = g15 at *
          have hnz : (rr.1 != rr.1) = false := by simp
          refine Agg.listR 8 (by kernel_rfl) ?_
          simp only [List.take_succ_cons, List.take_zero, List.drop_succ_cons, List.drop_zero]
          refine Agg.chRowB 132 H13.out (bok_cells HRB.out) (by decide +kernel) rfl rfl rfl rfl ?_
          refine Agg.chRowB 132 H15.out (bok_cells HRB.out) (by decide +kernel) rfl rfl rfl rfl ?_
          refine Agg.chBin (v := .bool false) rfl rfl rfl rfl rfl (fun w => flatBlk.gd .neq _ _ _ _ w) (fun w => blk_neq rr.2 rr.2 HRB.out HRB.out true (by simp) w) ?_
          refine Agg.chMove rfl rfl rfl rfl ?_
          refine Agg.chMove rfl rfl rfl rfl ?_
          refine Agg.chMove rfl rfl rfl rfl ?_
          refine Agg.chNe false (by simp) rfl rfl rfl rfl rfl ?_
          refine Agg.chPick rfl rfl rfl rfl rfl ?_
          refine Agg.chEnd ?_
          intro vs w36 hb _
          show Exit.then _ _ Exit.normal _ _
          simp only [List.reverse, List.reverseAux, Agg.fill, List.set_cons_succ, List.set_cons_zero]
          replace HB := Lib.hid (HB.out.trans (hb.mono HB.out.size))
          replace HFR := Lib.hid (HFR.out.keep hb)
          replace H7 := Lib.hid (H7.out.keep hb)
          replace HU := Lib.hid (HU.out.keep hb)
          replace H13 := Lib.hid (H13.out.keep hb)
          replace H15 := Lib.hid (H15.out.keep hb)
          clear hb
          clear HRR HRB H13 H15 H7 HU
          by_cases hz : z < 24
          · go_wp2_with fail
            refine (new_bad z (.inl hz) w36).mono ?_
            rintro e w37 ⟨rfl, hb⟩
            replace HB := Lib.hid (HB.out.trans (hb.mono HB.out.size))
            replace HFR := Lib.hid (HFR.out.keep hb)
            clear hb
            go_upto_region 17 with (fail)
            refine Agg.wp_at fun w38 hw38 => ?_
            have hb : Below w37.heap.size w37 w38 := by rw [hw38.out]; repeat (first | exact Below.refl _ _ | refine Agg.bel_drew ?_ | refine Agg.bel_alloc ?_ _)
            replace HB := Lib.hid (HB.out.trans (hb.mono HB.out.size))
            replace HFR := Lib.hid (HFR.out.keep hb)
            clear hb
            have H17 : Hid (Blk w38 w37.heap.size 36 [.slice none 0 0, .slice none 0 0, .int .i64 0, .bool false]) := by show Blk _ _ _ _; rw [hw38.out]; exact Blk.new w37 36 #[.slice none 0 0, .slice none 0 0, .int .i64 0, .bool false]
            clear hw38
            generalize w37.heap.size = g17 at *
            have HZ : Hid (DevR w38 (.agg #[.slice none 0 0, .slice none 0 0, .int .i64 0, .bool false]) dev0) := Lib.hid (devR_zero _)
            go_upto_region 18 with (fail)
            refine Agg.listR 8 (by kernel_rfl) ?_
            simp only [List.take_succ_cons, List.take_zero, List.drop_succ_cons, List.drop_zero]
            refine Agg.chMove rfl rfl rfl rfl ?_
            refine Agg.chNe false (by simp) rfl rfl rfl rfl rfl ?_
            refine Agg.chMove rfl rfl rfl rfl ?_
            refine Agg.chRowB 4 H17.out rfl (by decide +kernel) rfl rfl rfl rfl ?_
            refine Agg.chBuild (ps := []) (v := .agg #[.slice none 0 0, .slice none 0 0, .int .i64 0, .bool false]) rfl rfl rfl rfl (fun W => zero_dev W) ?_
            refine Agg.chCall Try.func13 rfl (by kernel_rfl) rfl rfl rfl rfl (fun W hb => rSame_R dev0_good dev0_good (DevR.keep HZ.out hb) (DevR.keep HZ.out hb) true (by simp)) ?_
            refine Agg.chNot rfl rfl rfl rfl ?_
            refine Agg.chPick rfl rfl rfl rfl rfl ?_
            refine Agg.chEnd ?_
            intro vs w39 hb _
            show Exit.then _ _ Exit.normal _ _
            simp only [List.reverse, List.reverseAux, Agg.fill, List.set_cons_succ, List.set_cons_zero]
            replace HB := Lib.hid (HB.out.trans (hb.mono HB.out.size))
            replace HFR := Lib.hid (HFR.out.keep hb)
            replace H17 := Lib.hid (H17.out.keep hb)
            replace HZ := Lib.hid (HZ.out.keep hb)
            clear hb
            go_wp2_with fail
            exact ⟨⟨k + 1, by omega, by omega, rfl, HFR.out⟩, by simp [intOf]; omega⟩
          by_cases hz2 : z > 256
          · have hz3 := hz2
            go_wp2_with fail
            refine (new_bad z (.inr hz2) w36).mono ?_
            rintro e w40 ⟨rfl, hb⟩
            replace HB := Lib.hid (HB.out.trans (hb.mono HB.out.size))
            replace HFR := Lib.hid (HFR.out.keep hb)
            clear hb
            go_upto_region 17 with (fail)
            refine Agg.wp_at fun w41 hw41 => ?_
            have hb : Below w40.heap.size w40 w41 := by rw [hw41.out]; repeat (first | exact Below.refl _ _ | refine Agg.bel_drew ?_ | refine Agg.bel_alloc ?_ _)
            replace HB := Lib.hid (HB.out.trans (hb.mono HB.out.size))
            replace HFR := Lib.hid (HFR.out.keep hb)
            clear hb
            have H17 : Hid (Blk w41 w40.heap.size 36 [.slice none 0 0, .slice none 0 0, .int .i64 0, .bool false]) := by show Blk _ _ _ _; rw [hw41.out]; exact Blk.new w40 36 #[.slice none 0 0, .slice none 0 0, .int .i64 0, .bool false]
            clear hw41
            generalize w40.heap.size = g17 at *
            have HZ : Hid (DevR w41 (.agg #[.slice none 0 0, .slice none 0 0, .int .i64 0, .bool false]) dev0) := Lib.hid (devR_zero _)
            go_upto_region 18 with (fail)
            refine Agg.listR 8 (by kernel_rfl) ?_
            simp only [List.take_succ_cons, List.take_zero, List.drop_succ_cons, List.drop_zero]
            refine Agg.chMove rfl rfl rfl rfl ?_
            refine Agg.chNe false (by simp) rfl rfl rfl rfl rfl ?_
            refine Agg.chMove rfl rfl rfl rfl ?_
            refine Agg.chRowB 4 H17.out rfl (by decide +kernel) rfl rfl rfl rfl ?_
            refine Agg.chBuild (ps := []) (v := .agg #[.slice none 0 0, .slice none 0 0, .int .i64 0, .bool false]) rfl rfl rfl rfl (fun W => zero_dev W) ?_
            refine Agg.chCall Try.func13 rfl (by kernel_rfl) rfl rfl rfl rfl (fun W hb => rSame_R dev0_good dev0_good (DevR.keep HZ.out hb) (DevR.keep HZ.out hb) true (by simp)) ?_
            refine Agg.chNot rfl rfl rfl rfl ?_
            refine Agg.chPick rfl rfl rfl rfl rfl ?_
            refine Agg.chEnd ?_
            intro vs w42 hb _
            show Exit.then _ _ Exit.normal _ _
            simp only [List.reverse, List.reverseAux, Agg.fill, List.set_cons_succ, List.set_cons_zero]
            replace HB := Lib.hid (HB.out.trans (hb.mono HB.out.size))
            replace HFR := Lib.hid (HFR.out.keep hb)
            replace H17 := Lib.hid (H17.out.keep hb)
            replace HZ := Lib.hid (HZ.out.keep hb)
            clear hb
            go_wp2_with fail
            exact ⟨⟨k + 1, by omega, by omega, rfl, HFR.out⟩, by simp [intOf]; omega⟩
          · obtain ⟨N, rfl, hN1, hN2⟩ : ∃ N : Nat, z = (N : Int) ∧ 24 ≤ N ∧ N ≤ 256 := ⟨z.toNat, by omega, by omega, by omega⟩
            go_wp2_with fail
            refine (new_R N hN1 hN2 w36).mono ?_
            rintro e w43 ⟨u, rfl, hu, hb⟩
            replace HB := Lib.hid (HB.out.trans (hb.mono HB.out.size))
            replace HFR := Lib.hid (HFR.out.keep hb)
            clear hb
            have HU := Lib.hid hu.read
            obtain ⟨qx, qc, qy, qd, rfl⟩ := DevR.shape hu.read
            clear hu
            go_upto_region 17 with (fail)
            refine Agg.wp_at fun w44 hw44 => ?_
            have hb : Below w43.heap.size w43 w44 := by rw [hw44.out]; repeat (first | exact Below.refl _ _ | refine Agg.bel_drew ?_ | refine Agg.bel_alloc ?_ _)
            replace HB := Lib.hid (HB.out.trans (hb.mono HB.out.size))
            replace HFR := Lib.hid (HFR.out.keep hb)
            replace HU := Lib.hid (HU.out.keep hb)
            clear hb
            have H17 : Hid (Blk w44 w43.heap.size 36 [.slice qx (newD N).pages.length qc, .slice qy (newD N).cache.length qd, .int .i64 (newD N).fuse, .bool (newD N).off]) := by show Blk _ _ _ _; rw [hw44.out]; exact Blk.new w43 36 #[.slice qx (newD N).pages.length qc, .slice qy (newD N).cache.length qd, .int .i64 (newD N).fuse, .bool (newD N).off]
            clear hw44
            generalize w43.heap.size = g17 at *
            have HND := Lib.hid (newD_good (Nat.le_trans hN2 (by decide)))
            have hn1 : ¬ (N : Int) < 24 := by omega
            have hn2 : ¬ (N : Int) > 256 := by omega
            go_upto_region 20 with (fail)
            refine Agg.chainR 9 (by kernel_rfl) (by kernel_rfl) ?_
            simp only [List.take_succ_cons, List.take_zero, List.drop_succ_cons, List.drop_zero]
            refine Agg.chMove rfl rfl rfl rfl ?_
            refine Agg.chNe false (by simp) rfl rfl rfl rfl rfl ?_
            refine Agg.chMove rfl rfl rfl rfl ?_
            refine Agg.chRowB 4 H17.out rfl (by decide +kernel) rfl rfl rfl rfl ?_
            refine Agg.chMove rfl rfl rfl rfl ?_
            refine Agg.chCallG Try.func15 rfl (by kernel_rfl) (DevRV (newD N)) (DevRV.stable _) rfl rfl rfl rfl (fun W hb => (rNew_R N (by omega) W).mono (by rintro e w' ⟨u, h1, h2, h3⟩; exact ⟨u, h1, h2.read, h3⟩)) ?_
            refine Agg.chCall2 Try.func13 rfl (by kernel_rfl) (.bool true) 5 rfl rfl rfl rfl rfl rfl rfl (fun u W hb hu => rSame_R HND.out HND.out (DevR.keep HU.out hb) hu true (by simp)) ?_
            refine Agg.chNot rfl rfl rfl rfl ?_
            refine Agg.chPick rfl rfl rfl rfl rfl ?_
            refine Agg.chEnd ?_
            intro vs w45 hb _
            refine Agg.wpNil ?_
            simp only [List.reverse, List.reverseAux, Agg.fill, List.set_cons_succ, List.set_cons_zero]
            replace HB := Lib.hid (HB.out.trans (hb.mono HB.out.size))
            replace HFR := Lib.hid (HFR.out.keep hb)
            replace HU := Lib.hid (HU.out.keep hb)
            replace H17 := Lib.hid (H17.out.keep hb)
            clear hb
            go_wp2_with fail
            exact ⟨⟨k + 1, by omega, by omega, rfl, HFR.out⟩, by simp [intOf]; omega⟩
      · obtain rfl : k = l.length := by omega
        have H3 := Lib.hid (H30.out.keep HFR.out)
        have HX := Lib.hid (HX0.out.keep HFR.out)
        go_upto_region 23 with (fail)
        refine Agg.chainR 5 (by kernel_rfl) (by kernel_rfl) ?_
        simp only [List.take_succ_cons, List.take_zero, List.drop_succ_cons, List.drop_zero]
        refine Agg.chRowB 4 H7.out rfl (by decide +kernel) rfl rfl rfl rfl ?_
        refine Agg.chRowB 5 H3.out HLC.out (by decide +kernel) rfl rfl rfl rfl ?_
        refine Agg.chCallG Try.func10 rfl (by kernel_rfl) (DevRV d) (DevRV.stable _) rfl rfl rfl rfl (fun W hb => HDX.out W (HX.out.keep hb)) ?_
        refine Agg.chCall2 Try.func13 rfl (by kernel_rfl) (.bool true) 2 rfl rfl rfl rfl rfl rfl rfl (fun u W hb hu => rSame_R G1.out G1.out (DevR.keep HU.out hb) hu true (by simp)) ?_
        refine Agg.chAssign rfl rfl rfl rfl ?_
        refine Agg.chEnd ?_
        intro vs w46 hb _
        refine Agg.wpNil ?_
        simp only [List.reverse, List.reverseAux, Agg.fill, List.set_cons_succ, List.set_cons_zero]
        replace HB := Lib.hid (HB.out.trans (hb.mono HB.out.size))
        replace HFR := Lib.hid (HFR.out.keep hb)
        replace H7 := Lib.hid (H7.out.keep hb)
        replace HU := Lib.hid (HU.out.keep hb)
        replace H3 := Lib.hid (H3.out.keep hb)
        replace HX := Lib.hid (HX.out.keep hb)
        clear hb
        go_wp2_with fail
        go_ret
        exact ⟨rfl, HB.out⟩
theorem DeviceTells_walk (c0 : Array Value) (f0 : Nat) (c1 : Array Value) (f1 : Nat) (v : Value) (f : Nat) (w : World) (h0 : Agg.Good Try.prog w f0 24 c0.toList) (h1 : Agg.Good Try.prog w f1 24 c1.toList) (h2 : Agg.Good Try.prog w f 29 [v]) :
    Calls Try.prog 6 #[.agg c0, .agg c1, v] w fun e w' => e = .returned (.bool true) ∧ Below w.heap.size w w' := by
  obtain ⟨x, fv, cv, rfl, hx⟩ := good_laid h0
  obtain ⟨y, fv2, cv2, rfl, hy⟩ := good_laid h1
  obtain ⟨l, hl, _⟩ := good_ints h2
  obtain ⟨s, cap, rfl, _⟩ := hl.shape
  exact tells_walk x fv cv y fv2 cv2 l s l.length cap w hx hy hl
end Go.Proofs.Ytapdigcpaebjiaa
