/-
  ROOTS: the document's Right.
-/
import Derived.Test.YtjnnnnolikbjcaaRtN1
namespace Go.Proofs.Ytjnnnnolikbjcaa
open Go.ChangeShapes Go.WideShapes Go.ChangeAt Go.RowKit Agg Pg Dv
attribute [local go_sem] Oper.semAt_some

theorem rints_take {w : World} {x : Option Addr} {n c k : Nat} {L : List Int} (h : SlR w (.slice x n c) 1 L.length (iC L)) (hn : L.length = n) (hk : k ≤ n) : Ints w (.slice x k c) (L.take k) := by
  rw [hn] at h
  have h2 := slR_head h k hk
  have e : (iC L).take (k * 1) = iC (L.take k) := by rw [Nat.mul_one]; unfold iC; rw [List.map_take]
  rw [e] at h2
  show SlR _ _ 1 (L.take k).length _
  rw [List.length_take, hn, Nat.min_eq_left hk]
  exact h2
set_option maxHeartbeats 8000000 in
set_option maxRecDepth 100000 in
theorem dRight_any (r : Rt) (v : Value) (w : World) (hv : RtR w v r) (hw : RtW r) :
    Calls Try.prog 25 #[v] w fun e w' => e = .returned (.bool (rightB r)) ∧ Below w.heap.size w w' := by
  obtain ⟨sl, rfl, hs⟩ := hv.ex
  obtain ⟨x, c, rfl, hc1, hc2⟩ := ints_shape hs
  rw [right_first]
  obtain ⟨ec, hec⟩ : ∃ e : Bool, (firstB r && pagesB r.pages r.pages.length) = e := ⟨_, rfl⟩
  rw [hec]
  obtain ⟨q, hq⟩ : ∃ q, firstB r = q := ⟨_, rfl⟩
  rw [hq] at hec
  have HF := Lib.hid hq
  have HE := Lib.hid hec
  clear hec
  have HS := Lib.hid hs
  have HW := Lib.hid hw
  have hs1 := hw.s1
  have hs2 := hw.s2
  have hst := hw.st
  have hb1 := hw.b1
  have hb2 := hw.b2
  have hn0 := hw.n
  obtain ⟨s, st, L, by'⟩ := r
  dsimp only at HF HE HS HW hs1 hs2 hst hb1 hb2 hn0 ⊢
  clear hq hs hv hw hc1 hc2
  unfold rtV
  dsimp only
  obtain ⟨n, hn⟩ : ∃ n, L.length = n := ⟨_, rfl⟩
  have HN := Lib.hid hn
  rw [hn] at hn0 HS HE
  rw [hn]
  clear hn
  have HS0 := HS
  have HB := Lib.hid (Below.refl w.heap.size w)
  go_enter Try.func25, Try.ntmps25
  go_upto_region 2 with (fail)
  refine Agg.wp_at fun w1 hw1 => ?_
  have hb : Below w.heap.size w w1 := by rw [hw1.out]; repeat (first | exact Below.refl _ _ | refine Agg.bel_drew ?_ | refine Agg.bel_alloc ?_ _)
  replace HB := Lib.hid (HB.out.trans (hb.mono HB.out.size))
  replace HS := Lib.hid (HS.out.keep hb)
  clear hb
  have H1 : Hid (Blk w1 w.heap.size 26 [.int .i64 s, .int .u64 (st : Int), .slice x n c, .int .i64 by']) := by show Blk _ _ _ _; rw [hw1.out]; exact Blk.new w 26 #[.int .i64 s, .int .u64 (st : Int), .slice x n c, .int .i64 by']
  clear hw1
  obtain ⟨wZ, hwZ⟩ : ∃ x, x = w1 := ⟨_, rfl⟩
  subst hwZ
  have HBZ := HB
  have HSZ := HS
  have H1Z := H1
  clear HB HS H1
  go_cut [49] from 8 to 49 (fun s' wx => s' = .bool (!q) ∧ Below wZ.heap.size wZ wx)
  case first =>
    have HB := Lib.hid (Below.refl wZ.heap.size wZ)
    have hq2 := HF.out
    unfold firstB at hq2
    dsimp only at hq2
    rw [HN.out] at hq2
    have HQ : Hid (∀ b : Bool, (b = true ↔ ((s = 0 ∨ s = 1) ∧ 1 ≤ st ∧ st ≤ 4611686018427387904 ∧ 1 ≤ n ∧ n ≤ 57 ∧ 120 * ((n : Int) - 1) < by' ∧ by' ≤ 120 * (n : Int))) → b = q) := Lib.hid (fun b hb => by
      rw [← hq2, Bool.eq_iff_iff, hb]
      simp only [Bool.and_eq_true, Bool.or_eq_true, decide_eq_true_eq, and_assoc])
    clear hq2
    obtain ⟨sq, hsq⟩ : ∃ b, decide (stampP st) = b := ⟨_, rfl⟩
    have HSQ := Lib.hid hsq
    clear hsq
    have c0 := H1Z.out.cell 0
    have c1 := H1Z.out.cell 1
    have c2 := H1Z.out.cell 2
    have c3 := H1Z.out.cell 3
    simp only [List.getElem?_cons_zero, List.getElem?_cons_succ] at c0 c1 c2 c3
    have H1 := H1Z
    by_cases k1 : s ≠ 0 ∧ s ≠ 1
    · obtain rfl := HQ.out false (by simp; omega)
      have e0 : (s != 0) = true := by simp [k1.1]
      have e1 : (s != 1) = true := by simp [k1.2]
      go_wp2_with fail
      go_meet
      exact ⟨rfl, HB.out⟩
    · have hs01 : s = 0 ∨ s = 1 := by omega
      clear k1 c2 c3
      rcases hs01 with rfl | rfl
      · skip
        go_wp2_with fail
        clear c1
        refine (stamped_any st wZ sq HSQ.out).mono ?_
        rintro e w31 ⟨rfl, hb⟩
        replace HB := Lib.hid (HB.out.trans (hb.mono HB.out.size))
        replace H1 := Lib.hid (H1.out.keep hb)
        clear hb
        have c3 := H1.out.cell 3
        simp only [List.getElem?_cons_zero, List.getElem?_cons_succ] at c3
        cases sq
        · have hsq := of_decide_eq_false HSQ.out
          unfold stampP at hsq
          obtain rfl := HQ.out false (by simp; omega)
          clear hsq
          go_wp2_with fail
          go_meet
          exact ⟨rfl, HB.out⟩
        · have hsq := of_decide_eq_true HSQ.out
          unfold stampP at hsq
          have HSS := Lib.hid hsq
          clear hsq
          by_cases m0 : n < 1
          · obtain rfl := HQ.out false (by have := HSS.out; simp; omega)
            go_wp2_with fail
            go_meet
            exact ⟨by first | rfl | (congr 1; simp; omega), HB.out⟩
          · skip
            by_cases m1 : 57 < n
            · obtain rfl := HQ.out false (by have := HSS.out; simp; omega)
              go_wp2_with fail
              go_meet
              exact ⟨by first | rfl | (congr 1; simp; omega), HB.out⟩
            · skip
              by_cases m2 : by' < 1
              · obtain rfl := HQ.out false (by have := HSS.out; simp; omega)
                go_wp2_with fail
                go_meet
                exact ⟨by first | rfl | (congr 1; simp; omega), HB.out⟩
              · skip
                by_cases m3 : by' > 120 * (n : Int)
                · obtain rfl := HQ.out false (by have := HSS.out; simp; omega)
                  go_wp2_with fail
                  go_meet
                  exact ⟨by first | rfl | (congr 1; simp; omega), HB.out⟩
                · skip
                  by_cases m4 : by' ≤ 120 * (n : Int) - 120
                  · obtain rfl := HQ.out false (by have := HSS.out; simp; omega)
                    go_wp2_with fail
                    go_meet
                    exact ⟨by first | rfl | (congr 1; simp; omega), HB.out⟩
                  · obtain rfl := HQ.out true (by have := HSS.out; simp; omega)
                    go_wp2_with fail
                    go_meet
                    exact ⟨by first | rfl | (congr 1; simp; omega), HB.out⟩
      · skip
        go_wp2_with fail
        clear c1
        refine (stamped_any st wZ sq HSQ.out).mono ?_
        rintro e w32 ⟨rfl, hb⟩
        replace HB := Lib.hid (HB.out.trans (hb.mono HB.out.size))
        replace H1 := Lib.hid (H1.out.keep hb)
        clear hb
        have c3 := H1.out.cell 3
        simp only [List.getElem?_cons_zero, List.getElem?_cons_succ] at c3
        cases sq
        · have hsq := of_decide_eq_false HSQ.out
          unfold stampP at hsq
          obtain rfl := HQ.out false (by simp; omega)
          clear hsq
          go_wp2_with fail
          go_meet
          exact ⟨rfl, HB.out⟩
        · have hsq := of_decide_eq_true HSQ.out
          unfold stampP at hsq
          have HSS := Lib.hid hsq
          clear hsq
          by_cases m0 : n < 1
          · obtain rfl := HQ.out false (by have := HSS.out; simp; omega)
            go_wp2_with fail
            go_meet
            exact ⟨by first | rfl | (congr 1; simp; omega), HB.out⟩
          · skip
            by_cases m1 : 57 < n
            · obtain rfl := HQ.out false (by have := HSS.out; simp; omega)
              go_wp2_with fail
              go_meet
              exact ⟨by first | rfl | (congr 1; simp; omega), HB.out⟩
            · skip
              by_cases m2 : by' < 1
              · obtain rfl := HQ.out false (by have := HSS.out; simp; omega)
                go_wp2_with fail
                go_meet
                exact ⟨by first | rfl | (congr 1; simp; omega), HB.out⟩
              · skip
                by_cases m3 : by' > 120 * (n : Int)
                · obtain rfl := HQ.out false (by have := HSS.out; simp; omega)
                  go_wp2_with fail
                  go_meet
                  exact ⟨by first | rfl | (congr 1; simp; omega), HB.out⟩
                · skip
                  by_cases m4 : by' ≤ 120 * (n : Int) - 120
                  · obtain rfl := HQ.out false (by have := HSS.out; simp; omega)
                    go_wp2_with fail
                    go_meet
                    exact ⟨by first | rfl | (congr 1; simp; omega), HB.out⟩
                  · obtain rfl := HQ.out true (by have := HSS.out; simp; omega)
                    go_wp2_with fail
                    go_meet
                    exact ⟨by first | rfl | (congr 1; simp; omega), HB.out⟩
  case rest =>
    obtain ⟨rfl, hbc⟩ := hcut
    have HB := Lib.hid (HBZ.out.trans (hbc.mono HBZ.out.size))
    have H1 := Lib.hid (H1Z.out.keep hbc)
    clear hbc HBZ HSZ H1Z
    cases q
    · obtain rfl : ec = false := by rw [← HE.out]; rfl
      go_wp2_with fail
      go_ret
      exact ⟨rfl, HB.out⟩
    · have HE2 : Hid (pagesB L n = ec) := Lib.hid (by rw [← HE.out]; rfl)
      go_wp2_with fail
      obtain ⟨wY, hwY⟩ : ∃ x, x = wc := ⟨_, rfl⟩
      subst hwY
      have HBY := HB
      have H1Y := H1
      clear HB H1
      go_loopw [4] (fun ix wr => ∃ k : Nat, k ≤ n ∧ ix = .int .i64 k ∧ pagesB L k = true ∧ Below wY.heap.size wY wr) (fun ix _ => n - (intOf ix).toNat)
      case atStart => exact ⟨0, by omega, rfl, rfl, Below.refl _ _⟩
      case round =>
        obtain ⟨k, hk, rfl, hp, hb⟩ := hrel
        have HP := Lib.hid hp
        have HB := Lib.hid hb
        have H1 := Lib.hid (H1Y.out.keep hb)
        have hsr := Lib.hid (SlR.keep HS0.out (HBY.out.trans (hb.mono HBY.out.size)))
        clear hp hb
        obtain ⟨wA, hwA⟩ : ∃ x, x = wr := ⟨_, rfl⟩
        subst hwA
        by_cases hlt : k < n
        · obtain ⟨b, o, cap', hve, hcap, _⟩ := SlR.pos hsr.out (by decide) (by rw [HN.out]; omega)
          injection hve with q1 q2 q3
          subst q1
          have hcc : n ≤ c := by rw [HN.out] at hcap; omega
          clear q2 q3 hcap
          have hkL : k < L.length := by rw [HN.out]; exact hlt
          have hcell := ints_at (l := L) hsr.out hkL
          have hgd : L.getD k 0 = L[k] := by rw [List.getD_eq_getElem?_getD, List.getElem?_eq_getElem hkL]; rfl
          have hsu := pagesB_succ L k
          obtain ⟨z, hz⟩ : ∃ y, L[k] = y := ⟨_, rfl⟩
          rw [hgd, hz, HP.out] at hsu
          rw [hz] at hcell
          have HSU := Lib.hid hsu
          have HCL := Lib.hid hcell
          obtain ⟨m, hm⟩ : ∃ m, (L.take k).contains z = m := ⟨_, rfl⟩
          have HHS := Lib.hid (fun W u h => hasI_any (L.take k) z u W h m hm)
          have HM := Lib.hid hm
          clear hsu hgd hz hcell hm
          go_upto_region 7 with (fail)
          by_cases k1 : z < 18
          · have hf : pagesB L n = false := pagesB_stop (k := k + 1) (by rw [HSU.out, decide_eq_false (show ¬ 18 ≤ z by omega)]; rfl) (by omega)
            obtain rfl : ec = false := by rw [← HE2.out, hf]
            clear hf
            refine Agg.chainR 26 (by kernel_rfl) (by kernel_rfl) ?_
            simp only [List.take_succ_cons, List.take_zero, List.drop_succ_cons, List.drop_zero]
            refine Agg.chFA fo_Rt_2 rfl rfl rfl rfl ?_
            refine Agg.chLoadB H1.out (by decide +kernel) rfl rfl (by rfl) rfl rfl ?_
            refine Agg.chMove rfl rfl rfl rfl ?_
            refine Agg.chIA tiInt (by omega) (by omega) rfl rfl rfl rfl rfl ?_
            refine Agg.chLoad rfl rfl rfl rfl (by decide +kernel) (by simp only [Int.toNat_natCast, Nat.mul_one]; exact HCL.out) ?_
            refine Agg.chLt true (decide_eq_true k1) rfl rfl rfl rfl rfl ?_
            refine Agg.chMove rfl rfl rfl rfl ?_
            refine Agg.chSkip rfl rfl ?_
            refine Agg.chSkip rfl rfl ?_
            refine Agg.chSkip rfl rfl ?_
            refine Agg.chSkip rfl rfl ?_
            refine Agg.chSkip rfl rfl ?_
            refine Agg.chSkip rfl rfl ?_
            refine Agg.chPick rfl rfl rfl rfl rfl ?_
            refine Agg.chMove rfl rfl rfl rfl ?_
            refine Agg.chSkip rfl rfl ?_
            refine Agg.chSkip rfl rfl ?_
            refine Agg.chSkip rfl rfl ?_
            refine Agg.chSkip rfl rfl ?_
            refine Agg.chSkip rfl rfl ?_
            refine Agg.chSkip rfl rfl ?_
            refine Agg.chSkip rfl rfl ?_
            refine Agg.chSkip rfl rfl ?_
            refine Agg.chSkip rfl rfl ?_
            refine Agg.chSkip rfl rfl ?_
            refine Agg.chPick rfl rfl rfl rfl rfl ?_
            refine Agg.chEnd ?_
            intro vs w81 hb _
            refine Agg.wpNil ?_
            simp only [List.reverse, List.reverseAux, Agg.fill, List.set_cons_succ, List.set_cons_zero]
            replace HB := Lib.hid (HB.out.trans (hb.mono HB.out.size))
            replace H1 := Lib.hid (H1.out.keep hb)
            replace hsr := Lib.hid (hsr.out.keep hb)
            clear hb
            go_wp2_with fail
            go_ret
            exact ⟨rfl, HBY.out.trans (HB.out.mono HBY.out.size)⟩
          · by_cases k2 : z > 255
            · have hf : pagesB L n = false := pagesB_stop (k := k + 1) (by rw [HSU.out, decide_eq_false (show ¬ z ≤ 255 by omega), Bool.and_false]; rfl) (by omega)
              obtain rfl : ec = false := by rw [← HE2.out, hf]
              clear hf
              refine Agg.chainR 26 (by kernel_rfl) (by kernel_rfl) ?_
              simp only [List.take_succ_cons, List.take_zero, List.drop_succ_cons, List.drop_zero]
              refine Agg.chFA fo_Rt_2 rfl rfl rfl rfl ?_
              refine Agg.chLoadB H1.out (by decide +kernel) rfl rfl (by rfl) rfl rfl ?_
              refine Agg.chMove rfl rfl rfl rfl ?_
              refine Agg.chIA tiInt (by omega) (by omega) rfl rfl rfl rfl rfl ?_
              refine Agg.chLoad rfl rfl rfl rfl (by decide +kernel) (by simp only [Int.toNat_natCast, Nat.mul_one]; exact HCL.out) ?_
              refine Agg.chLt false (decide_eq_false k1) rfl rfl rfl rfl rfl ?_
              refine Agg.chMove rfl rfl rfl rfl ?_
              refine Agg.chFA fo_Rt_2 rfl rfl rfl rfl ?_
              refine Agg.chLoadB H1.out (by decide +kernel) rfl rfl (by rfl) rfl rfl ?_
              refine Agg.chMove rfl rfl rfl rfl ?_
              refine Agg.chIA tiInt (by omega) (by omega) rfl rfl rfl rfl rfl ?_
              refine Agg.chLoad rfl rfl rfl rfl (by decide +kernel) (by simp only [Int.toNat_natCast, Nat.mul_one]; exact HCL.out) ?_
              refine Agg.chGt true (decide_eq_true k2) rfl rfl rfl rfl rfl ?_
              refine Agg.chPick rfl rfl rfl rfl rfl ?_
              refine Agg.chMove rfl rfl rfl rfl ?_
              refine Agg.chSkip rfl rfl ?_
              refine Agg.chSkip rfl rfl ?_
              refine Agg.chSkip rfl rfl ?_
              refine Agg.chSkip rfl rfl ?_
              refine Agg.chSkip rfl rfl ?_
              refine Agg.chSkip rfl rfl ?_
              refine Agg.chSkip rfl rfl ?_
              refine Agg.chSkip rfl rfl ?_
              refine Agg.chSkip rfl rfl ?_
              refine Agg.chSkip rfl rfl ?_
              refine Agg.chPick rfl rfl rfl rfl rfl ?_
              refine Agg.chEnd ?_
              intro vs w82 hb _
              refine Agg.wpNil ?_
              simp only [List.reverse, List.reverseAux, Agg.fill, List.set_cons_succ, List.set_cons_zero]
              replace HB := Lib.hid (HB.out.trans (hb.mono HB.out.size))
              replace H1 := Lib.hid (H1.out.keep hb)
              replace hsr := Lib.hid (hsr.out.keep hb)
              clear hb
              go_wp2_with fail
              go_ret
              exact ⟨rfl, HBY.out.trans (HB.out.mono HBY.out.size)⟩
            · have hs2 := HSU.out
              rw [decide_eq_true (show (18 : Int) ≤ z by omega), decide_eq_true (show z ≤ 255 by omega), HM.out] at hs2
              have HS2 := Lib.hid hs2
              clear hs2
              refine Agg.chainR 26 (by kernel_rfl) (by kernel_rfl) ?_
              simp only [List.take_succ_cons, List.take_zero, List.drop_succ_cons, List.drop_zero]
              refine Agg.chFA fo_Rt_2 rfl rfl rfl rfl ?_
              refine Agg.chLoadB H1.out (by decide +kernel) rfl rfl (by rfl) rfl rfl ?_
              refine Agg.chMove rfl rfl rfl rfl ?_
              refine Agg.chIA tiInt (by omega) (by omega) rfl rfl rfl rfl rfl ?_
              refine Agg.chLoad rfl rfl rfl rfl (by decide +kernel) (by simp only [Int.toNat_natCast, Nat.mul_one]; exact HCL.out) ?_
              refine Agg.chLt false (decide_eq_false k1) rfl rfl rfl rfl rfl ?_
              refine Agg.chMove rfl rfl rfl rfl ?_
              refine Agg.chFA fo_Rt_2 rfl rfl rfl rfl ?_
              refine Agg.chLoadB H1.out (by decide +kernel) rfl rfl (by rfl) rfl rfl ?_
              refine Agg.chMove rfl rfl rfl rfl ?_
              refine Agg.chIA tiInt (by omega) (by omega) rfl rfl rfl rfl rfl ?_
              refine Agg.chLoad rfl rfl rfl rfl (by decide +kernel) (by simp only [Int.toNat_natCast, Nat.mul_one]; exact HCL.out) ?_
              refine Agg.chGt false (decide_eq_false k2) rfl rfl rfl rfl rfl ?_
              refine Agg.chPick rfl rfl rfl rfl rfl ?_
              refine Agg.chMove rfl rfl rfl rfl ?_
              refine Agg.chFA fo_Rt_2 rfl rfl rfl rfl ?_
              refine Agg.chLoadB H1.out (by decide +kernel) rfl rfl (by rfl) rfl rfl ?_
              refine Agg.chMove rfl rfl rfl rfl ?_
              refine Agg.chSlice none (some (.int .i64 (k : Int))) none rfl rfl rfl rfl rfl rfl rfl rfl (fun W => run_slice_upto tiInt (some ⟨b, o, none⟩) n c k (by omega) W) ?_
              refine Agg.chFA fo_Rt_2 rfl rfl rfl rfl ?_
              refine Agg.chLoadB H1.out (by decide +kernel) rfl rfl (by rfl) rfl rfl ?_
              refine Agg.chMove rfl rfl rfl rfl ?_
              refine Agg.chIA tiInt (by omega) (by omega) rfl rfl rfl rfl rfl ?_
              refine Agg.chLoad rfl rfl rfl rfl (by decide +kernel) (by simp only [Int.toNat_natCast, Nat.mul_one]; exact HCL.out) ?_
              refine Agg.chCall Try.func55 rfl (by kernel_rfl) rfl rfl rfl rfl (fun W hb => HHS.out W _ (rints_take (SlR.keep hsr.out hb) HN.out (Nat.le_of_lt hlt))) ?_
              refine Agg.chPick rfl rfl rfl rfl rfl ?_
              refine Agg.chEnd ?_
              intro vs w83 hb _
              refine Agg.wpNil ?_
              simp only [List.reverse, List.reverseAux, Agg.fill, List.set_cons_succ, List.set_cons_zero]
              replace HB := Lib.hid (HB.out.trans (hb.mono HB.out.size))
              replace H1 := Lib.hid (H1.out.keep hb)
              replace hsr := Lib.hid (hsr.out.keep hb)
              clear hb
              cases m
              · go_wp2_with fail
                exact ⟨⟨k + 1, by omega, by go_num, by rw [HS2.out]; rfl, HB.out⟩, by simp [intOf]; omega⟩
              · have hf : pagesB L n = false := pagesB_stop (k := k + 1) (by rw [HS2.out]; rfl) (by omega)
                obtain rfl : ec = false := by rw [← HE2.out, hf]
                clear hf
                go_wp2_with fail
                go_ret
                exact ⟨rfl, HBY.out.trans (HB.out.mono HBY.out.size)⟩
        · obtain rfl : k = n := by omega
          obtain rfl : ec = true := by rw [← HE2.out, HP.out]
          go_wp2_with fail
          go_ret
          exact ⟨rfl, HBY.out.trans (HB.out.mono HBY.out.size)⟩
end Go.Proofs.Ytjnnnnolikbjcaa
