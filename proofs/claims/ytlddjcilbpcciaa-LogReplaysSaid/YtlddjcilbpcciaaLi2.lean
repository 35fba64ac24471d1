/-
  THE LOG: the document's Group.
-/
import Derived.Test.YtlddjcilbpcciaaLh3
namespace Lg
open Go Go.RowKit Agg
theorem results_t4 {P : Program} {fn : Func} {t u v x : Tmp} (h : fn.results = #[.tmp t, .tmp u, .tmp v, .tmp x]) (tmps : Array Value) (w : World) :
    (results fn tmps).run P w = .ok (.tuple #[tmps.getD t undef, tmps.getD u undef, tmps.getD v undef, tmps.getD x undef]) w := by
  simp [results, h]
end Lg
namespace Go.Proofs.Ytlddjcilbpcciaa
open Go.ChangeShapes Go.WideShapes Go.ChangeAt Go.RowKit Agg Pg Dv Lg
attribute [local go_sem] Oper.semAt_some

theorem fo_LPage_0 : Agg.fieldOff Try.prog 86 0 = some 0 := by kernel_rfl
theorem fo_LPage_1 : Agg.fieldOff Try.prog 86 1 = some 1 := by kernel_rfl
theorem rAt_R {d : Dev} (hd : DGood d) (hc : d.cache.length ≤ 1000000) (hr : rightD d = true) {v : Value} {w : World} (hv : DevR w v d) (q : Nat) (hq : q < 16) : Calls Try.prog 51 #[v, .int .i64 ((2 + q : Nat) : Int)] w fun e w' => e = .returned (.agg (blkC (atL d q)).toArray) ∧ Below w.heap.size w w' := by
  obtain ⟨x, y, cap, cm, rfl, h2, h3⟩ := hv
  have hl : 24 ≤ d.pages.length := by
    unfold rightD at hr
    simp only [Bool.and_eq_true, decide_eq_true_eq] at hr
    omega
  have := rAt_any d.pages d.cache d.fuse d.off x y cap cm (2 + q) (by omega) w hc h2 h3 hd.pages hd.cache
  have e : atL d q = saysP d.pages d.cache ((2 + q : Nat) : Int) := by unfold atL; congr 1
  rw [e]
  exact this
noncomputable def firstP (f : Nat → List Sec) (p i : Nat) : Nat := if i = 0 then 0 else pSt (f p)
theorem firstP_pos {f : Nat → List Sec} {p i : Nat} (h : 0 < i) : firstP f p i = pSt (f p) := if_neg (by omega)
/-- what is met of a group's pages -/
def MetD (f : Nat → List Sec) (p k i n0 : Nat) (w : World) (s13 s12 s11 : Value) : Prop := (s13 = .bool true ∧ okTo f p i = true ∧ s12 = .int .u64 (firstP f p i : Int) ∧ w.ownsRow n0 5 1 s11 (grp f p i).length (bv (grp f p i))) ∨ (s13 = .bool false ∧ okTo f p k = false ∧ ∃ (x : Option Addr) (n c : Nat) (z : Nat), s11 = .slice x n c ∧ s12 = .int .u64 (z : Int))
set_option maxHeartbeats 4000000 in
set_option maxRecDepth 100000 in
theorem rGroup_any (d : Dev) (p after : Nat) (dv : Value) (w : World) (hd : DGood d) (hc : d.cache.length ≤ 1000000) (hr : rightD d = true) (hD : DevR w dv d) (hp : p ≤ 16) (ha : after < 18446744073709551616) (M : Nat) (hM : nextG (atL d) p after = M) :
    Calls Try.prog 37 #[dv, .int .i64 (p : Int), .int .u64 (after : Int)] w fun e w' => ∃ u, e = .returned (.tuple #[u, .int .i64 (M : Int), .int .u64 (((if M = 0 then 0 else pSt (atL d p) + M - 1) : Nat) : Int), .bool (decide (M ≠ 0))]) ∧ w'.ownsRow w.heap.size 5 1 u (grp (atL d) p M).length (bv (grp (atL d) p M)) ∧ Below w.heap.size w w' := by
  obtain ⟨px, cx, pc, cc, rfl, hk2, hk3⟩ := id hD
  obtain ⟨f, hf⟩ : ∃ f, atL d = f := ⟨_, rfl⟩
  have HAT := Lib.hid (fun W v (h : DevR W v d) q hq => rAt_R hd hc hr h q hq)
  rw [hf] at HAT hM
  rw [hf]
  have hfo : ∀ i, BOk (f i) := fun i => by rw [← hf]; exact atL_bok hd i
  have HFO := Lib.hid hfo
  have HM : Hid (nextF f p after 1 (17 - p - 1) = M) := Lib.hid (by rw [show 17 - p - 1 = 16 - p by omega]; exact hM)
  have HD := Lib.hid hD
  clear hd hc hr hD hk2 hk3 hf hfo hM
  have HB := Lib.hid (Below.refl w.heap.size w)
  go_enter Try.func37, Try.ntmps37
  go_wp2_with fail
  refine Agg.wp_at fun w1 hw1 => ?_
  have hb : Below w.heap.size w w1 := by rw [hw1.out]; repeat (first | exact Below.refl _ _ | refine Agg.bel_drew ?_ | refine Agg.bel_alloc ?_ _)
  replace HB := Lib.hid (HB.out.trans (hb.mono HB.out.size))
  replace HD := Lib.hid (HD.out.keep hb)
  clear hb
  have H3 : Hid (Blk w1 w.heap.size 28 [.slice px d.pages.length pc, .slice cx d.cache.length cc, .int .i64 d.fuse, .bool d.off]) := by show Blk _ _ _ _; rw [hw1.out]; exact Blk.new w 28 #[.slice px d.pages.length pc, .slice cx d.cache.length cc, .int .i64 d.fuse, .bool d.off]
  clear hw1
  have HDZ := HD
  have H3Z := H3
  have HBZ := HB
  have hlz := H3.out.lt
  clear HD H3 HB
  go_loopw [10] (fun s10 wr => ∃ k : Nat, 1 ≤ k ∧ p + k ≤ 17 ∧ s10 = .int .i64 k ∧ nextF f p after k (17 - p - k) = M ∧ Below w1.heap.size w1 wr) (fun s10 _ => 17 - p - (intOf s10).toNat)
  case atStart => exact ⟨1, by omega, by omega, rfl, HM.out, Below.refl _ _⟩
  case round =>
    clear HM
    obtain ⟨k, hk1, hk2, rfl, hnx, hb⟩ := hrel
    have HNX := Lib.hid hnx
    have HB := Lib.hid (HBZ.out.trans (hb.mono HBZ.out.size))
    have HD := Lib.hid (HDZ.out.keep hb)
    have H3 := Lib.hid (H3Z.out.keep hb)
    have HF1 : Hid (From w1 wr) := Lib.hid hb
    have hw1 := hb.size
    clear hnx hb
    obtain ⟨wA, hwA⟩ : ∃ x, x = wr := ⟨_, rfl⟩
    subst hwA
    by_cases h16 : p + k ≤ 16
    · have h16b : decide ((p : Int) + (k : Int) ≤ 16) = true := by simp; omega
      go_wp2_with fail
      clear h16b
      have HDA := HD
      have H3A := H3
      have HFA := HF1
      have HBA := HB
      clear HD H3 HF1 HB
      go_loopw [14, 13, 12, 11] (fun s14 s13 s12 s11 wr => ∃ i : Nat, i ≤ k ∧ s14 = .int .i64 i ∧ MetD f p k i wA.heap.size wr s13 s12 s11 ∧ Below wA.heap.size wA wr) (fun s14 _ _ _ _ => k - (intOf s14).toNat)
      case atStart => exact ⟨0, by omega, rfl, .inl ⟨rfl, rfl, rfl, World.ownsRow_nil _ _ _ _⟩, Below.refl _ _⟩
      case round =>
        obtain ⟨i, hi, rfl, hme, hb⟩ := hrel
        have HB := Lib.hid (HBA.out.trans (hb.mono HBA.out.size))
        have HD := Lib.hid (HDA.out.keep hb)
        have H3 := Lib.hid (H3A.out.keep hb)
        have HF1 := Lib.hid (HFA.out.keep hb)
        have HF2 : Hid (From wA wr) := Lib.hid hb
        clear hb
        obtain ⟨wC, hwC⟩ : ∃ x, x = wr := ⟨_, rfl⟩
        subst hwC
        rcases hme with ⟨rfl, hok, rfl, hrow⟩ | ⟨rfl, hok, gx, gn, gc, fz, rfl, rfl⟩
        · obtain ⟨gx, gc, rfl, _, hgm⟩ := (ownSl hrow).shape
          have hgl := grp_len f p i HFO.out
          have HROW := Lib.hid hrow
          have HOK := Lib.hid hok
          clear hrow hok
          by_cases hik : i < k
          · have h3 := H3.out
            go_wp2_with (refine Agg.gLoadB 4 h3 rfl rfl rfl rfl (by decide +kernel) ?_; simp only [Act.put, List.setIfInBounds_toArray, List.set_cons_succ, List.set_cons_zero])
            clear h3
            rw [show (2 : Int) + (p : Int) + (i : Int) = ((2 + (p + i) : Nat) : Int) by omega]
            refine (HAT.out wC _ HD.out (p + i) (by omega)).mono ?_
            rintro e w41 ⟨rfl, hb⟩
            replace HB := Lib.hid (HB.out.trans (hb.mono HB.out.size))
            replace HD := Lib.hid (HD.out.keep hb)
            replace H3 := Lib.hid (H3.out.keep hb)
            replace HF1 := Lib.hid (HF1.out.keep hb)
            replace HF2 := Lib.hid (HF2.out.keep hb)
            replace HROW := Lib.hid (HROW.out.keep hb)
            clear hb
            have hbo := HFO.out (p + i)
            obtain ⟨⟨⟨kd, dt⟩, st, er⟩, hrr⟩ : ∃ r, readR (f (p + i)) = r := ⟨_, rfl⟩
            have HRD := Lib.hid (fun W => pgrRead_any (f (p + i)) hbo W kd dt st er hrr)
            have hpd : pData (f (p + i)) = dt := by unfold pData; rw [hrr]
            have hps : pSt (f (p + i)) = st := by unfold pSt; rw [hrr]
            have hpk : pOk (f (p + i)) = true ↔ er = 0 ∧ kd = 2 ∧ 3 ≤ dt.length := by rw [pOk_iff, hrr]
            have hst62 : st ≤ 4611686018427387904 := by rw [← hps]; exact pSt_max hbo
            have HPD := Lib.hid hpd
            have HPS := Lib.hid hps
            have HPK := Lib.hid hpk
            clear hbo hrr hpd hps hpk
            go_wp2_with fail
            refine (HRD.out w41).mono ?_
            rintro e w42 ⟨u, rfl, hu, hb⟩
            replace HB := Lib.hid (HB.out.trans (hb.mono HB.out.size))
            replace HD := Lib.hid (HD.out.keep hb)
            replace H3 := Lib.hid (H3.out.keep hb)
            replace HF1 := Lib.hid (HF1.out.keep hb)
            replace HF2 := Lib.hid (HF2.out.keep hb)
            replace HROW := Lib.hid (HROW.out.keep hb)
            clear hb
            obtain ⟨ux, uc, rfl, _, _⟩ := SlR.shape hu
            have HU := Lib.hid hu
            clear hu HRD
            go_upto_region 11 with (first
              | (refine Agg.allocRow 86 #[.int .i64 0, .slice none 0 0] rfl rfl (by kernel_rfl) ?_; simp only [Act.put, List.setIfInBounds_toArray, List.set_cons_succ, List.set_cons_zero])
              | (refine Agg.gStoreNew 2 [.int .i64 kd, .slice ux dt.length uc] rfl rfl rfl rfl rfl rfl (by decide +kernel) rfl rfl (by simp [Value.oneCell']) ?_; simp only [Act.put]))
            refine Agg.wp_at fun w43 hw43 => ?_
            have hb : Below w42.heap.size w42 w43 := by rw [hw43.out]; repeat (first | exact Below.refl _ _ | refine Agg.bel_drew ?_ | refine Agg.bel_alloc ?_ _)
            replace HB := Lib.hid (HB.out.trans (hb.mono HB.out.size))
            replace HD := Lib.hid (HD.out.keep hb)
            replace H3 := Lib.hid (H3.out.keep hb)
            replace HF1 := Lib.hid (HF1.out.keep hb)
            replace HF2 := Lib.hid (HF2.out.keep hb)
            replace HROW := Lib.hid (HROW.out.keep hb)
            replace HU := Lib.hid (HU.out.keep hb)
            clear hb
            have HX : Hid (Blk w43 w42.heap.size 86 [.int .i64 kd, .slice ux dt.length uc]) := by show Blk _ _ _ _; rw [hw43.out]; exact Blk.new w42 86 #[.int .i64 kd, .slice ux dt.length uc]
            clear hw43
            generalize w42.heap.size = g15 at *
            by_cases e1 : er = 0
            · have d1 : (er != 0) = false := by simp [e1]
              by_cases e2 : kd = 2
              · have d2 : (kd != 2) = false := by simp [e2]
                by_cases e3 : dt.length < 3
                · have d3 : decide ((dt.length : Int) < 3) = true := by simp; omega
                  have HNO : Hid (okTo f p k = false) := Lib.hid (by
                    cases hq : okTo f p k with
                    | false => rfl
                    | true => exact absurd (HPK.out.1 ((okTo_iff f p k).1 hq i hik)) (by omega))
                  clear e1 e2 e3
                  refine Agg.listR 13 (by kernel_rfl) ?_
                  simp only [List.take_succ_cons, List.take_zero, List.drop_succ_cons, List.drop_zero]
                  refine Agg.chMove rfl rfl rfl rfl ?_
                  refine Agg.chNe false d1 rfl rfl rfl rfl rfl ?_
                  refine Agg.chMove rfl rfl rfl rfl ?_
                  refine Agg.chFA (by first | exact fo_Lo_0 | exact fo_fo_Dev_0 | exact fo_LPage_0) rfl rfl rfl rfl ?_
                  refine Agg.chLoadB HX.out (by decide +kernel) rfl rfl (by rfl) rfl rfl ?_
                  refine Agg.chNe false d2 rfl rfl rfl rfl rfl ?_
                  refine Agg.chPick rfl rfl rfl rfl rfl ?_
                  refine Agg.chMove rfl rfl rfl rfl ?_
                  refine Agg.chFA (by first | exact fo_Lo_1 | exact fo_fo_Dev_1 | exact fo_LPage_1) rfl rfl rfl rfl ?_
                  refine Agg.chLoadB HX.out (by decide +kernel) rfl rfl (by rfl) rfl rfl ?_
                  refine Agg.chLen Try.underlying37 rfl rfl rfl rfl ?_
                  refine Agg.chLt true d3 rfl rfl rfl rfl rfl ?_
                  refine Agg.chPick rfl rfl rfl rfl rfl ?_
                  refine Agg.chEnd ?_
                  intro vs w44 hb _
                  show Exit.then _ _ Exit.normal _ _
                  simp only [List.reverse, List.reverseAux, Agg.fill, List.set_cons_succ, List.set_cons_zero]
                  replace HB := Lib.hid (HB.out.trans (hb.mono HB.out.size))
                  replace HD := Lib.hid (HD.out.keep hb)
                  replace H3 := Lib.hid (H3.out.keep hb)
                  replace HF1 := Lib.hid (HF1.out.keep hb)
                  replace HF2 := Lib.hid (HF2.out.keep hb)
                  replace HROW := Lib.hid (HROW.out.keep hb)
                  replace HU := Lib.hid (HU.out.keep hb)
                  replace HX := Lib.hid (HX.out.keep hb)
                  clear hb
                  go_wp2_with fail
                  exact ⟨⟨i + 1, by omega, by go_num, .inr ⟨rfl, HNO.out, gx, (grp f p i).length, gc, firstP f p i, rfl, rfl⟩, HF2.out⟩, by simp [intOf]; omega⟩
                · skip
                  have d3 : decide ((dt.length : Int) < 3) = false := by simp; omega
                  have hpo : pOk (f (p + i)) = true := HPK.out.2 ⟨e1, e2, by omega⟩
                  have HOK2 : Hid (okTo f p (i + 1) = true) := Lib.hid (by rw [okTo_succ, HOK.out, hpo]; rfl)
                  clear e1 e2 hpo
                  refine Agg.listR 13 (by kernel_rfl) ?_
                  simp only [List.take_succ_cons, List.take_zero, List.drop_succ_cons, List.drop_zero]
                  refine Agg.chMove rfl rfl rfl rfl ?_
                  refine Agg.chNe false d1 rfl rfl rfl rfl rfl ?_
                  refine Agg.chMove rfl rfl rfl rfl ?_
                  refine Agg.chFA (by first | exact fo_Lo_0 | exact fo_fo_Dev_0 | exact fo_LPage_0) rfl rfl rfl rfl ?_
                  refine Agg.chLoadB HX.out (by decide +kernel) rfl rfl (by rfl) rfl rfl ?_
                  refine Agg.chNe false d2 rfl rfl rfl rfl rfl ?_
                  refine Agg.chPick rfl rfl rfl rfl rfl ?_
                  refine Agg.chMove rfl rfl rfl rfl ?_
                  refine Agg.chFA (by first | exact fo_Lo_1 | exact fo_fo_Dev_1 | exact fo_LPage_1) rfl rfl rfl rfl ?_
                  refine Agg.chLoadB HX.out (by decide +kernel) rfl rfl (by rfl) rfl rfl ?_
                  refine Agg.chLen Try.underlying37 rfl rfl rfl rfl ?_
                  refine Agg.chLt false d3 rfl rfl rfl rfl rfl ?_
                  refine Agg.chPick rfl rfl rfl rfl rfl ?_
                  refine Agg.chEnd ?_
                  intro vs w45 hb _
                  show Exit.then _ _ Exit.normal _ _
                  simp only [List.reverse, List.reverseAux, Agg.fill, List.set_cons_succ, List.set_cons_zero]
                  replace HB := Lib.hid (HB.out.trans (hb.mono HB.out.size))
                  replace HD := Lib.hid (HD.out.keep hb)
                  replace H3 := Lib.hid (H3.out.keep hb)
                  replace HF1 := Lib.hid (HF1.out.keep hb)
                  replace HF2 := Lib.hid (HF2.out.keep hb)
                  replace HROW := Lib.hid (HROW.out.keep hb)
                  replace HU := Lib.hid (HU.out.keep hb)
                  replace HX := Lib.hid (HX.out.keep hb)
                  clear hb
                  obtain ⟨y3, c3, hsl, hr3⟩ := Agg.slR_rest ti25 (by decide) (show SlR w45 (.slice ux dt.length uc) 1 dt.length (bv dt) from HU.out) 2 (by omega)
                  have HSL := Lib.hid hsl
                  have HR3 := Lib.hid hr3
                  have c1x := HX.out.cell 1
                  simp only [List.getElem?_cons_zero, List.getElem?_cons_succ] at c1x
                  have hone : ∀ u ∈ (bv dt).drop (2 * 1), u.oneCell' = true := fun u hu => bv_one dt u (List.mem_of_mem_drop hu)
                  have HGS : Hid (bv (grp f p i) ++ (bv dt).drop (2 * 1) = bv (grp f p (i + 1))) := Lib.hid (by
                    rw [grp_succ, HPD.out, bv_append]
                    unfold bv
                    rw [List.map_drop])
                  have HGN : Hid ((grp f p i).length + (dt.length - 2) = (grp f p (i + 1)).length) := Lib.hid (by rw [grp_succ, HPD.out, List.length_append, List.length_drop])
                  have hgl2 := grp_len f p (i + 1) HFO.out
                  have hwA2 : wA.heap.size ≤ w45.heap.size := Below.size HF2.out
                  have hrw := HROW.out
                  have hg3 : (grp f p i).length + (dt.length - 2) ≤ 2000 := by rw [HGN.out]; omega
                  clear hsl hr3
                  generalize hgi : (grp f p i).length = gl at *
                  by_cases hi0 : i = 0
                  · have HFP : Hid (firstP f p (i + 1) = st) := Lib.hid (by rw [firstP_pos (by omega), ← HPS.out, hi0]; rfl)
                    have hib : ((i : Int) == 0) = true := by simp [hi0]
                    clear hi0
                    go_wp2_with (first
                      | (refine Agg.gSliceFrom (.slice y3 (dt.length - 2) c3) rfl rfl rfl rfl HSL.out ?_; simp only [Act.put, List.setIfInBounds_toArray, List.set_cons_succ, List.set_cons_zero])
                      | (refine Agg.append2 ti25 (.tmp 62) (.tmp 65) rfl rfl wA.heap.size (v := .slice gx gl gc) rfl hrw rfl HR3.out hone (by unfold maxLen; omega) (by omega) hwA2 (fun v2 w4 hC4 hg4 hwh => ?_); simp only [Act.put, List.setIfInBounds_toArray, List.set_cons_succ, List.set_cons_zero]))
                    rw [HGS.out, HGN.out] at hC4
                    have hb4 := Below.trans HF2.out (grown_below hg4 hwA2 (own_block hrw))
                    exact ⟨⟨i + 1, by omega, by go_num, .inl ⟨rfl, HOK2.out, by rw [HFP.out], hC4⟩, hb4⟩, by simp [intOf]; omega⟩
                  · skip
                    have HFP : Hid (firstP f p (i + 1) = firstP f p i) := Lib.hid (by rw [firstP_pos (by omega), firstP_pos (by omega)])
                    have hib : ((i : Int) == 0) = false := beq_false_of_ne (by omega)
                    clear hi0
                    go_wp2_with (first
                      | (refine Agg.gSliceFrom (.slice y3 (dt.length - 2) c3) rfl rfl rfl rfl HSL.out ?_; simp only [Act.put, List.setIfInBounds_toArray, List.set_cons_succ, List.set_cons_zero])
                      | (refine Agg.append2 ti25 (.tmp 62) (.tmp 65) rfl rfl wA.heap.size (v := .slice gx gl gc) rfl hrw rfl HR3.out hone (by unfold maxLen; omega) (by omega) hwA2 (fun v2 w4 hC4 hg4 hwh => ?_); simp only [Act.put, List.setIfInBounds_toArray, List.set_cons_succ, List.set_cons_zero]))
                    rw [HGS.out, HGN.out] at hC4
                    have hb4 := Below.trans HF2.out (grown_below hg4 hwA2 (own_block hrw))
                    exact ⟨⟨i + 1, by omega, by go_num, .inl ⟨rfl, HOK2.out, by rw [HFP.out], hC4⟩, hb4⟩, by simp [intOf]; omega⟩
              · skip
                have d2 : (kd != 2) = true := bne_iff_ne.2 e2
                have HNO : Hid (okTo f p k = false) := Lib.hid (by
                  cases hq : okTo f p k with
                  | false => rfl
                  | true => exact absurd (HPK.out.1 ((okTo_iff f p k).1 hq i hik)).2.1 e2)
                clear e1 e2
                refine Agg.listR 13 (by kernel_rfl) ?_
                simp only [List.take_succ_cons, List.take_zero, List.drop_succ_cons, List.drop_zero]
                refine Agg.chMove rfl rfl rfl rfl ?_
                refine Agg.chNe false d1 rfl rfl rfl rfl rfl ?_
                refine Agg.chMove rfl rfl rfl rfl ?_
                refine Agg.chFA (by first | exact fo_Lo_0 | exact fo_fo_Dev_0 | exact fo_LPage_0) rfl rfl rfl rfl ?_
                refine Agg.chLoadB HX.out (by decide +kernel) rfl rfl (by rfl) rfl rfl ?_
                refine Agg.chNe true d2 rfl rfl rfl rfl rfl ?_
                refine Agg.chPick rfl rfl rfl rfl rfl ?_
                refine Agg.chMove rfl rfl rfl rfl ?_
                refine Agg.chSkip rfl rfl ?_
                refine Agg.chSkip rfl rfl ?_
                refine Agg.chSkip rfl rfl ?_
                refine Agg.chSkip rfl rfl ?_
                refine Agg.chPick rfl rfl rfl rfl rfl ?_
                refine Agg.chEnd ?_
                intro vs w46 hb _
                show Exit.then _ _ Exit.normal _ _
                simp only [List.reverse, List.reverseAux, Agg.fill, List.set_cons_succ, List.set_cons_zero]
                replace HB := Lib.hid (HB.out.trans (hb.mono HB.out.size))
                replace HD := Lib.hid (HD.out.keep hb)
                replace H3 := Lib.hid (H3.out.keep hb)
                replace HF1 := Lib.hid (HF1.out.keep hb)
                replace HF2 := Lib.hid (HF2.out.keep hb)
                replace HROW := Lib.hid (HROW.out.keep hb)
                replace HU := Lib.hid (HU.out.keep hb)
                replace HX := Lib.hid (HX.out.keep hb)
                clear hb
                go_wp2_with fail
                exact ⟨⟨i + 1, by omega, by go_num, .inr ⟨rfl, HNO.out, gx, (grp f p i).length, gc, firstP f p i, rfl, rfl⟩, HF2.out⟩, by simp [intOf]; omega⟩
            · skip
              have d1 : (er != 0) = true := bne_iff_ne.2 e1
              have HNO : Hid (okTo f p k = false) := Lib.hid (by
                cases hq : okTo f p k with
                | false => rfl
                | true => exact absurd (HPK.out.1 ((okTo_iff f p k).1 hq i hik)).1 e1)
              clear e1
              refine Agg.listR 13 (by kernel_rfl) ?_
              simp only [List.take_succ_cons, List.take_zero, List.drop_succ_cons, List.drop_zero]
              refine Agg.chMove rfl rfl rfl rfl ?_
              refine Agg.chNe true d1 rfl rfl rfl rfl rfl ?_
              refine Agg.chMove rfl rfl rfl rfl ?_
              refine Agg.chSkip rfl rfl ?_
              refine Agg.chSkip rfl rfl ?_
              refine Agg.chSkip rfl rfl ?_
              refine Agg.chPick rfl rfl rfl rfl rfl ?_
              refine Agg.chMove rfl rfl rfl rfl ?_
              refine Agg.chSkip rfl rfl ?_
              refine Agg.chSkip rfl rfl ?_
              refine Agg.chSkip rfl rfl ?_
              refine Agg.chSkip rfl rfl ?_
              refine Agg.chPick rfl rfl rfl rfl rfl ?_
              refine Agg.chEnd ?_
              intro vs w47 hb _
              show Exit.then _ _ Exit.normal _ _
              simp only [List.reverse, List.reverseAux, Agg.fill, List.set_cons_succ, List.set_cons_zero]
              replace HB := Lib.hid (HB.out.trans (hb.mono HB.out.size))
              replace HD := Lib.hid (HD.out.keep hb)
              replace H3 := Lib.hid (H3.out.keep hb)
              replace HF1 := Lib.hid (HF1.out.keep hb)
              replace HF2 := Lib.hid (HF2.out.keep hb)
              replace HROW := Lib.hid (HROW.out.keep hb)
              replace HU := Lib.hid (HU.out.keep hb)
              replace HX := Lib.hid (HX.out.keep hb)
              clear hb
              go_wp2_with fail
              exact ⟨⟨i + 1, by omega, by go_num, .inr ⟨rfl, HNO.out, gx, (grp f p i).length, gc, firstP f p i, rfl, rfl⟩, HF2.out⟩, by simp [intOf]; omega⟩
          · obtain rfl : k = i := by omega
            have hfp := firstP_pos (f := f) (p := p) (i := k) (by omega)
            obtain ⟨S, hS⟩ : ∃ S, pSt (f p) = S := ⟨_, rfl⟩
            rw [hfp, hS]
            have hS62 : S ≤ 4611686018427387904 := by rw [← hS]; exact pSt_max (HFO.out p)
            have HS := Lib.hid hS
            clear hfp hS
            obtain ⟨G, hG⟩ : ∃ G, grp f p k = G := ⟨_, rfl⟩
            rw [hG] at HROW hgl
            rw [hG]
            have HG := Lib.hid hG
            clear hG
            by_cases c1 : S ≤ after
            · have d1 : decide ((S : Int) ≤ (after : Int)) = true := by simp; omega
              have HT : Hid (tryB f p after k = false) := Lib.hid (try_le (by rw [HS.out]; exact c1))
              clear c1
              go_upto_region 16 with (fail)
              refine Agg.listR 14 (by kernel_rfl) ?_
              simp only [List.take_succ_cons, List.take_zero, List.drop_succ_cons, List.drop_zero]
              refine Agg.chMove rfl rfl rfl rfl ?_
              refine Agg.chNot rfl rfl rfl rfl ?_
              refine Agg.chMove rfl rfl rfl rfl ?_
              refine Agg.chMove rfl rfl rfl rfl ?_
              refine Agg.chMove rfl rfl rfl rfl ?_
              refine Agg.chLe true d1 rfl rfl rfl rfl rfl ?_
              refine Agg.chPick rfl rfl rfl rfl rfl ?_
              refine Agg.chMove rfl rfl rfl rfl ?_
              refine Agg.chSkip rfl rfl ?_
              refine Agg.chSkip rfl rfl ?_
              refine Agg.chSkip rfl rfl ?_
              refine Agg.chSkip rfl rfl ?_
              refine Agg.chSkip rfl rfl ?_
              refine Agg.chPick rfl rfl rfl rfl rfl ?_
              refine Agg.chEnd ?_
              intro vs w48 hb _
              show Exit.then _ _ Exit.normal _ _
              simp only [List.reverse, List.reverseAux, Agg.fill, List.set_cons_succ, List.set_cons_zero]
              replace HB := Lib.hid (HB.out.trans (hb.mono HB.out.size))
              replace HD := Lib.hid (HD.out.keep hb)
              replace H3 := Lib.hid (H3.out.keep hb)
              replace HF1 := Lib.hid (HF1.out.keep hb)
              replace HF2 := Lib.hid (HF2.out.keep hb)
              replace HROW := Lib.hid (HROW.out.keep hb)
              clear hb
              go_wp2_with fail
              exact ⟨⟨k + 1, by omega, by omega, by go_num, next_no h16 HNX.out HT.out, HF1.out⟩, by simp [intOf]; omega⟩
            · skip
              have d1 : decide ((S : Int) ≤ (after : Int)) = false := by simp; omega
              by_cases c2 : needL (G.length : Int) = (k : Int)
              · have d2 : (needL (G.length : Int) != (k : Int)) = false := by simp [c2]
                have HC2 := Lib.hid c2
                clear c2
                go_upto_region 16 with (fail)
                refine Agg.listR 14 (by kernel_rfl) ?_
                simp only [List.take_succ_cons, List.take_zero, List.drop_succ_cons, List.drop_zero]
                refine Agg.chMove rfl rfl rfl rfl ?_
                refine Agg.chNot rfl rfl rfl rfl ?_
                refine Agg.chMove rfl rfl rfl rfl ?_
                refine Agg.chMove rfl rfl rfl rfl ?_
                refine Agg.chMove rfl rfl rfl rfl ?_
                refine Agg.chLe false d1 rfl rfl rfl rfl rfl ?_
                refine Agg.chPick rfl rfl rfl rfl rfl ?_
                refine Agg.chMove rfl rfl rfl rfl ?_
                refine Agg.chMove rfl rfl rfl rfl ?_
                refine Agg.chLen Try.underlying37 rfl rfl rfl rfl ?_
                refine Agg.chCall Try.func11 rfl (by kernel_rfl) rfl rfl rfl rfl (fun W hb => rneed_any (G.length : Int) (by omega) (by omega) W) ?_
                refine Agg.chMove rfl rfl rfl rfl ?_
                refine Agg.chNe false d2 rfl rfl rfl rfl rfl ?_
                refine Agg.chPick rfl rfl rfl rfl rfl ?_
                refine Agg.chEnd ?_
                intro vs w49 hb _
                show Exit.then _ _ Exit.normal _ _
                simp only [List.reverse, List.reverseAux, Agg.fill, List.set_cons_succ, List.set_cons_zero]
                replace HB := Lib.hid (HB.out.trans (hb.mono HB.out.size))
                replace HD := Lib.hid (HD.out.keep hb)
                replace H3 := Lib.hid (H3.out.keep hb)
                replace HF1 := Lib.hid (HF1.out.keep hb)
                replace HF2 := Lib.hid (HF2.out.keep hb)
                replace HROW := Lib.hid (HROW.out.keep hb)
                clear hb
                have HBK := Lib.hid (fun W (h : Bytes W (.slice gx G.length gc) G) => rgBlocks_any S G _ k W h (by omega) HC2.out.symm (by omega))
                go_wp2_with fail
                refine (HBK.out w49 (ownSl HROW.out)).mono ?_
                rintro e w50 ⟨u, rfl, hu, hb⟩
                replace HB := Lib.hid (HB.out.trans (hb.mono HB.out.size))
                replace HD := Lib.hid (HD.out.keep hb)
                replace H3 := Lib.hid (H3.out.keep hb)
                replace HF1 := Lib.hid (HF1.out.keep hb)
                replace HF2 := Lib.hid (HF2.out.keep hb)
                replace HROW := Lib.hid (HROW.out.keep hb)
                clear hb
                obtain ⟨ux, uc, rfl, _, _⟩ := (ownSl hu).shape
                have HU := Lib.hid (own_base hu (Nat.zero_le _))
                have HLU : Hid (∀ b ∈ rblG S G k k, (blkC b).length = 132) := Lib.hid (fun b hb => bok_cells (rblG_bok S G k k (by omega) b hb))
                have HTD : Hid (tryB f p after k = sameD f p k k) := Lib.hid (try_doc HFO.out HOK.out (by rw [HS.out]; omega) (by rw [HG.out]; exact HC2.out))
                clear hu HBK
                go_wp2_with fail
                obtain ⟨wB, hwB⟩ : ∃ x, x = w50 := ⟨_, rfl⟩
                subst hwB
                have HDB := HD
                have H3B := H3
                have HF1B := HF1
                have HRB := HROW
                have HUB := HU
                have HBB := HB
                clear HD H3 HF1 HF2 HROW HU HB
                go_loopw [20, 19] (fun s20 s19 wr => ∃ j : Nat, j ≤ k ∧ s20 = .int .i64 j ∧ s19 = .bool (sameD f p k j) ∧ Below wB.heap.size wB wr) (fun s20 _ _ => k - (intOf s20).toNat)
                case atStart => exact ⟨0, by omega, rfl, by rw [sameD_zero], Below.refl _ _⟩
                case round =>
                  obtain ⟨j, hj, rfl, rfl, hb⟩ := hrel
                  have HB := Lib.hid (HBB.out.trans (hb.mono HBB.out.size))
                  have HD := Lib.hid (HDB.out.keep hb)
                  have H3 := Lib.hid (H3B.out.keep hb)
                  have HF1 := Lib.hid (HF1B.out.keep hb)
                  have HROW := Lib.hid (HRB.out.keep hb)
                  have HU := Lib.hid (HUB.out.keep hb)
                  have HFB : Hid (From wB wr) := Lib.hid hb
                  clear hb
                  obtain ⟨wE, hwE⟩ : ∃ x, x = wr := ⟨_, rfl⟩
                  subst hwE
                  have HSM := Lib.hid (sameD_succ f p k j)
                  have HSK : Hid (j = k → tryB f p after k = sameD f p k j) := Lib.hid (fun h => by rw [h]; exact HTD.out)
                  obtain ⟨q, hq⟩ : ∃ q, sameD f p k j = q := ⟨_, rfl⟩
                  rw [hq] at HSM HSK
                  rw [hq]
                  clear hq
                  by_cases hjk : j < k
                  · obtain ⟨ub, uo, uc', hve, _, _, _, _⟩ := SlR.pos (ownSl HU.out) (by decide) (by omega)
                    simp only [Value.slice.injEq, true_and] at hve
                    obtain ⟨rfl, rfl⟩ := hve
                    have hi1 : j < (rblG S G k k).length := by rw [rblG_length]; exact hjk
                    go_upto_region 22 with (fail)
                    have hul2 : Blks wE (.slice (some ⟨ub, uo, none⟩) k uc) (rblG S G k k) := by
                      show SlR _ _ _ _ _
                      rw [rblG_length]; exact ownSl HU.out
                    have hcs := fun i v hv => blks_at hul2 HLU.out hi1 i v hv
                    rw [rblG_get] at hcs
                    have hbo : BOk (layB 2 (partL G k j) (S + j)) := layB_bok' 2 _ _ (partL_len G k j) (by omega)
                    have hsm := HSM.out
                    rw [HG.out, HS.out] at hsm
                    obtain ⟨bl, hbl2⟩ : ∃ y, layB 2 (partL G k j) (S + j) = y := ⟨_, rfl⟩
                    rw [hbl2] at hcs hbo hsm
                    obtain ⟨r, hr⟩ : ∃ r, decide (bl = f (p + j)) = r := ⟨_, rfl⟩
                    have HNQ := Lib.hid (blk_neq bl (f (p + j)) hbo (HFO.out _) r hr)
                    rw [hr] at hsm
                    have HSN := Lib.hid hsm
                    have HCS := Lib.hid hcs
                    have H132 := Lib.hid (bok_cells hbo)
                    clear hsm hcs hbo hbl2 hr hul2 hi1
                    have hpj : (2 : Int) + (p : Int) + (j : Int) = ((2 + (p + j) : Nat) : Int) := by omega
                    refine Agg.chainR 11 (by kernel_rfl) (by kernel_rfl) ?_
                    simp only [List.take_succ_cons, List.take_zero, List.drop_succ_cons, List.drop_zero]
                    refine Agg.chMove rfl rfl rfl rfl ?_
                    refine Agg.chMove rfl rfl rfl rfl ?_
                    refine Agg.chIA tiBl (by omega) (by omega) rfl rfl rfl rfl rfl ?_
                    refine Agg.chRowAt 132 (blkC bl) H132.out (by decide +kernel) rfl rfl rfl rfl HCS.out ?_
                    refine Agg.chRowB 4 H3.out rfl (by decide +kernel) rfl rfl rfl rfl ?_
                    refine Agg.chMove rfl rfl rfl rfl ?_
                    refine Agg.chAr64 rfl rfl rfl rfl (by omega) (by omega) rfl rfl ?_
                    refine Agg.chMove rfl rfl rfl rfl ?_
                    refine Agg.chAr64 (r := ((2 + (p + j) : Nat) : Int)) rfl rfl rfl (congrArg some hpj) (by omega) (by omega) rfl rfl ?_
                    refine Agg.chCall Try.func51 rfl (by kernel_rfl) rfl rfl rfl rfl (fun W hb => HAT.out W _ (HD.out.keep hb) (p + j) (by omega)) ?_
                    refine Agg.chBin (v := .bool (!r)) rfl rfl rfl rfl rfl (fun w => flatBlk.gd .neq _ _ _ _ w) (fun w => HNQ.out w) ?_
                    refine Agg.chEnd ?_
                    intro vs w61 hb _
                    refine Agg.wpNil ?_
                    simp only [List.reverse, List.reverseAux, Agg.fill, List.set_cons_succ, List.set_cons_zero]
                    replace HB := Lib.hid (HB.out.trans (hb.mono HB.out.size))
                    replace HD := Lib.hid (HD.out.keep hb)
                    replace H3 := Lib.hid (H3.out.keep hb)
                    replace HF1 := Lib.hid (HF1.out.keep hb)
                    replace HROW := Lib.hid (HROW.out.keep hb)
                    replace HU := Lib.hid (HU.out.keep hb)
                    replace HFB := Lib.hid (HFB.out.keep hb)
                    clear hb
                    clear HCS HNQ H132 hpj
                    cases r
                    · go_wp2_with fail
                      exact ⟨⟨j + 1, by omega, by go_num, by rw [HSN.out, Bool.and_false], HFB.out⟩, by simp [intOf]; omega⟩
                    · skip
                      go_wp2_with fail
                      exact ⟨⟨j + 1, by omega, by go_num, by rw [HSN.out, Bool.and_true], HFB.out⟩, by simp [intOf]; omega⟩
                  · obtain rfl : k = j := by omega
                    have HTQ := Lib.hid (HSK.out rfl)
                    cases q
                    · have HT : Hid (tryB f p after k = false) := HTQ
                      go_wp2_with fail
                      exact ⟨⟨k + 1, by omega, by omega, by go_num, next_no h16 HNX.out HT.out, HF1.out⟩, by simp [intOf]; omega⟩
                    · have hMk := next_yes h16 HNX.out HTQ.out
                      go_wp2_with fail
                      rw [HS.out, HG.out, show (S : Int) + (k : Int) - 1 = ((S + k - 1 : Nat) : Int) by omega]
                      exact bodyPost_ret (results_t4 rfl _ _) rfl ⟨_, rfl, own_base HROW.out (by have := HBA.out.size; omega), HB.out⟩
              · skip
                have d2 : (needL (G.length : Int) != (k : Int)) = true := bne_iff_ne.2 c2
                have HT : Hid (tryB f p after k = false) := Lib.hid (try_nd (by rw [HG.out]; exact c2))
                clear c2
                go_upto_region 16 with (fail)
                refine Agg.listR 14 (by kernel_rfl) ?_
                simp only [List.take_succ_cons, List.take_zero, List.drop_succ_cons, List.drop_zero]
                refine Agg.chMove rfl rfl rfl rfl ?_
                refine Agg.chNot rfl rfl rfl rfl ?_
                refine Agg.chMove rfl rfl rfl rfl ?_
                refine Agg.chMove rfl rfl rfl rfl ?_
                refine Agg.chMove rfl rfl rfl rfl ?_
                refine Agg.chLe false d1 rfl rfl rfl rfl rfl ?_
                refine Agg.chPick rfl rfl rfl rfl rfl ?_
                refine Agg.chMove rfl rfl rfl rfl ?_
                refine Agg.chMove rfl rfl rfl rfl ?_
                refine Agg.chLen Try.underlying37 rfl rfl rfl rfl ?_
                refine Agg.chCall Try.func11 rfl (by kernel_rfl) rfl rfl rfl rfl (fun W hb => rneed_any (G.length : Int) (by omega) (by omega) W) ?_
                refine Agg.chMove rfl rfl rfl rfl ?_
                refine Agg.chNe true d2 rfl rfl rfl rfl rfl ?_
                refine Agg.chPick rfl rfl rfl rfl rfl ?_
                refine Agg.chEnd ?_
                intro vs w62 hb _
                show Exit.then _ _ Exit.normal _ _
                simp only [List.reverse, List.reverseAux, Agg.fill, List.set_cons_succ, List.set_cons_zero]
                replace HB := Lib.hid (HB.out.trans (hb.mono HB.out.size))
                replace HD := Lib.hid (HD.out.keep hb)
                replace H3 := Lib.hid (H3.out.keep hb)
                replace HF1 := Lib.hid (HF1.out.keep hb)
                replace HF2 := Lib.hid (HF2.out.keep hb)
                replace HROW := Lib.hid (HROW.out.keep hb)
                clear hb
                go_wp2_with fail
                exact ⟨⟨k + 1, by omega, by omega, by go_num, next_no h16 HNX.out HT.out, HF1.out⟩, by simp [intOf]; omega⟩
        · skip
          have HT : Hid (tryB f p after k = false) := Lib.hid (try_ok hok)
          by_cases hik : i < k
          · go_upto_region 16 with (fail)
            refine Agg.listR 14 (by kernel_rfl) ?_
            simp only [List.take_succ_cons, List.take_zero, List.drop_succ_cons, List.drop_zero]
            refine Agg.chMove rfl rfl rfl rfl ?_
            refine Agg.chNot rfl rfl rfl rfl ?_
            refine Agg.chMove rfl rfl rfl rfl ?_
            refine Agg.chSkip rfl rfl ?_
            refine Agg.chSkip rfl rfl ?_
            refine Agg.chSkip rfl rfl ?_
            refine Agg.chPick rfl rfl rfl rfl rfl ?_
            refine Agg.chMove rfl rfl rfl rfl ?_
            refine Agg.chSkip rfl rfl ?_
            refine Agg.chSkip rfl rfl ?_
            refine Agg.chSkip rfl rfl ?_
            refine Agg.chSkip rfl rfl ?_
            refine Agg.chSkip rfl rfl ?_
            refine Agg.chPick rfl rfl rfl rfl rfl ?_
            refine Agg.chEnd ?_
            intro vs w63 hb _
            show Exit.then _ _ Exit.normal _ _
            simp only [List.reverse, List.reverseAux, Agg.fill, List.set_cons_succ, List.set_cons_zero]
            replace HB := Lib.hid (HB.out.trans (hb.mono HB.out.size))
            replace HD := Lib.hid (HD.out.keep hb)
            replace H3 := Lib.hid (H3.out.keep hb)
            replace HF1 := Lib.hid (HF1.out.keep hb)
            replace HF2 := Lib.hid (HF2.out.keep hb)
            clear hb
            go_wp2_with fail
            exact ⟨⟨k + 1, by omega, by omega, by go_num, next_no h16 HNX.out HT.out, HF1.out⟩, by simp [intOf]; omega⟩
          · skip
            go_upto_region 16 with (fail)
            refine Agg.listR 14 (by kernel_rfl) ?_
            simp only [List.take_succ_cons, List.take_zero, List.drop_succ_cons, List.drop_zero]
            refine Agg.chMove rfl rfl rfl rfl ?_
            refine Agg.chNot rfl rfl rfl rfl ?_
            refine Agg.chMove rfl rfl rfl rfl ?_
            refine Agg.chSkip rfl rfl ?_
            refine Agg.chSkip rfl rfl ?_
            refine Agg.chSkip rfl rfl ?_
            refine Agg.chPick rfl rfl rfl rfl rfl ?_
            refine Agg.chMove rfl rfl rfl rfl ?_
            refine Agg.chSkip rfl rfl ?_
            refine Agg.chSkip rfl rfl ?_
            refine Agg.chSkip rfl rfl ?_
            refine Agg.chSkip rfl rfl ?_
            refine Agg.chSkip rfl rfl ?_
            refine Agg.chPick rfl rfl rfl rfl rfl ?_
            refine Agg.chEnd ?_
            intro vs w64 hb _
            show Exit.then _ _ Exit.normal _ _
            simp only [List.reverse, List.reverseAux, Agg.fill, List.set_cons_succ, List.set_cons_zero]
            replace HB := Lib.hid (HB.out.trans (hb.mono HB.out.size))
            replace HD := Lib.hid (HD.out.keep hb)
            replace H3 := Lib.hid (H3.out.keep hb)
            replace HF1 := Lib.hid (HF1.out.keep hb)
            replace HF2 := Lib.hid (HF2.out.keep hb)
            clear hb
            go_wp2_with fail
            exact ⟨⟨k + 1, by omega, by omega, by go_num, next_no h16 HNX.out HT.out, HF1.out⟩, by simp [intOf]; omega⟩
    · skip
      have hM0 : M = 0 := by
        have := HNX.out
        rw [show 17 - p - k = 0 by omega, nextF] at this
        exact this.symm
      subst hM0
      go_wp2_with fail
      exact bodyPost_ret (results_t4 rfl _ _) rfl ⟨_, rfl, World.ownsRow_nil _ _ _ _, HB.out⟩
end Go.Proofs.Ytlddjcilbpcciaa
