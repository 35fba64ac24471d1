/-
  DEVICES: Same (from device's texts).
-/
import Derived.Test.YtjnnnnolikbjcaaRFdDw1
namespace Go.Proofs.Ytjnnnnolikbjcaa
open Go.ChangeShapes Go.WideShapes Go.ChangeAt Go.RowKit Agg Pg Dv

set_option maxHeartbeats 2000000 in
set_option maxRecDepth 100000 in
theorem equalB_any (P Q : List (List Sec)) (u v : Value) (w : World) (hu : Pgs w u P) (hv : Pgs w v Q) (hP : ∀ b ∈ P, BOk b) (hQ : ∀ b ∈ Q, BOk b) (r : Bool) (hr : decide (P = Q) = r) :
    Calls Try.prog 58 #[u, v] w fun e w' => e = .returned (.bool r) ∧ Below w.heap.size w w' := by
  obtain ⟨x, cap, rfl, hc1, hc2⟩ := SlR.shape hu
  obtain ⟨y, dap, rfl, hd1, hd2⟩ := SlR.shape hv
  unfold maxLen at hc2 hd2
  have HU := Lib.hid hu
  have HV := Lib.hid hv
  have HP := Lib.hid hP
  have HQ := Lib.hid hQ
  have HR := Lib.hid hr
  have HCP : Hid (∀ b ∈ P, (blkC b).length = 132) := Lib.hid (fun b hb => bok_cells (hP b hb))
  have HCQ : Hid (∀ b ∈ Q, (blkC b).length = 132) := Lib.hid (fun b hb => bok_cells (hQ b hb))
  clear hu hv hP hQ hr
  have HB := Lib.hid (Below.refl w.heap.size w)
  go_enter Try.func58, Try.ntmps58
  by_cases hlen : P.length = Q.length
  · have HLE := Lib.hid hlen
    rw [← hlen] at HV hd1 ⊢
    clear hlen
    have hne : ((P.length : Int) != P.length) = false := by simp
    go_wp2_with fail
    clear hne
    go_loopw [13] (fun i wr => ∃ k : Nat, k ≤ P.length ∧ i = .int .i64 k ∧ Below w.heap.size w wr ∧ P.take k = Q.take k) (fun i _ => P.length - (intOf i).toNat)
    case atStart => exact ⟨0, by omega, rfl, Below.refl _ _, rfl⟩
    case round =>
      obtain ⟨k, hk, rfl, hb, htk⟩ := hrel
      replace HB := Lib.hid hb
      have HTK := Lib.hid htk
      have HU2 := Lib.hid (HU.out.keep HB.out)
      clear hb htk
      have hv2 : SlR wr (.slice y P.length dap) 132 Q.length (Q.flatMap blkC) := SlR.keep HV.out HB.out
      have HV2 := Lib.hid hv2
      clear hv2
      by_cases hlt : k < P.length
      · have hltq : k < Q.length := by have := HLE.out; omega
        obtain ⟨b, o, cap', hve, _, _, _, _⟩ := SlR.pos HU2.out (by decide) (by omega)
        simp only [Value.slice.injEq, true_and] at hve
        obtain ⟨rfl, rfl⟩ := hve
        obtain ⟨b2, o2, cap2, hve, _, _, _, _⟩ := SlR.pos HV2.out (by decide) (by omega)
        simp only [Value.slice.injEq, true_and] at hve
        obtain ⟨rfl, _, rfl⟩ := hve
        have hcu := Lib.hid (flat_at blkC 132 (by decide) HU2.out HCP.out hlt)
        have hcv := Lib.hid (flat_at blkC 132 (by decide) HV2.out HCQ.out hltq)
        have h1 := Lib.hid (HCP.out _ (List.getElem_mem hlt))
        have h2 := Lib.hid (HCQ.out _ (List.getElem_mem hltq))
        obtain ⟨q, hq⟩ : ∃ q, decide (P[k] = Q[k]) = q := ⟨_, rfl⟩
        have HNQ := Lib.hid (blk_neq P[k] Q[k] (HP.out _ (List.getElem_mem hlt)) (HQ.out _ (List.getElem_mem hltq)) q hq)
        have HQ2 := Lib.hid hq
        have HST : Hid (q = true → P.take (k + 1) = Q.take (k + 1)) := by
          refine Lib.hid (fun e => ?_)
          rw [e, decide_eq_true_eq] at hq
          rw [List.take_succ_eq_append_getElem hlt, List.take_succ_eq_append_getElem hltq, HTK.out, hq]
        have HNE : Hid (q = false → P ≠ Q) := by
          refine Lib.hid (fun e he => ?_)
          rw [e, decide_eq_false_iff_not] at hq
          exact hq (by subst he; rfl)
        clear hq
        generalize P[k] = A at *
        generalize Q[k] = B at *
        go_upto_region 6 with (fail)
        refine Agg.chainR 9 (by kernel_rfl) (by kernel_rfl) ?_
        simp only [List.take_succ_cons, List.take_zero, List.drop_succ_cons, List.drop_zero]
        refine Agg.chMove rfl rfl rfl rfl ?_
        refine Agg.chMove rfl rfl rfl rfl ?_
        refine Agg.chIA tiBl (by omega) (by omega) rfl rfl rfl rfl rfl ?_
        refine Agg.chRowAt 132 (blkC A) h1.out (by decide +kernel) rfl rfl rfl rfl hcu.out ?_
        refine Agg.chMove rfl rfl rfl rfl ?_
        refine Agg.chMove rfl rfl rfl rfl ?_
        refine Agg.chIA tiBl (by omega) (by omega) rfl rfl rfl rfl rfl ?_
        refine Agg.chRowAt 132 (blkC B) h2.out (by decide +kernel) rfl rfl rfl rfl hcv.out ?_
        refine Agg.chBin (v := .bool (!q)) rfl rfl rfl rfl rfl (fun w => flatBlk.gd .neq _ _ _ _ w) HNQ.out ?_
        refine Agg.chEnd ?_
        intro vs w1 hb _
        refine Agg.wpNil ?_
        simp only [List.reverse, List.reverseAux, Agg.fill, List.set_cons_succ, List.set_cons_zero]
        replace HB := Lib.hid (HB.out.trans (hb.mono HB.out.size))
        clear hb
        cases q
        · obtain rfl : r = false := by rw [← HR.out]; simpa using HNE.out rfl
          rw [show (!false) = true from rfl]
          go_wp2_with fail
          go_ret
          exact ⟨rfl, HB.out⟩
        · rw [show (!true) = false from rfl]
          go_wp2_with fail
          go_roundw
          case rel => exact ⟨k + 1, by omega, by go_num, HB.out, HST.out rfl⟩
          case measure => simp [intOf]; omega
      · obtain rfl : k = P.length := by omega
        obtain rfl : r = true := by
          rw [← HR.out]
          have := HTK.out
          rw [List.take_length, HLE.out, List.take_length] at this
          simpa using this
        go_wp2_with fail
        go_ret
        exact ⟨rfl, HB.out⟩
  · have hne : ((P.length : Int) != Q.length) = true := by simp; omega
    obtain rfl : r = false := by rw [← HR.out]; simp; intro e; exact hlen (by rw [e])
    clear hlen
    go_wp2_with fail
    go_ret
    exact ⟨rfl, HB.out⟩
set_option maxHeartbeats 2000000 in
set_option maxRecDepth 100000 in
theorem equalW_any (P Q : List (Int × List Sec)) (u v : Value) (w : World) (hu : Wrs w u P) (hv : Wrs w v Q) (hP : ∀ b ∈ P, WOk b) (hQ : ∀ b ∈ Q, WOk b) (r : Bool) (hr : decide (P = Q) = r) :
    Calls Try.prog 59 #[u, v] w fun e w' => e = .returned (.bool r) ∧ Below w.heap.size w w' := by
  obtain ⟨x, cap, rfl, hc1, hc2⟩ := SlR.shape hu
  obtain ⟨y, dap, rfl, hd1, hd2⟩ := SlR.shape hv
  unfold maxLen at hc2 hd2
  have HU := Lib.hid hu
  have HV := Lib.hid hv
  have HP := Lib.hid hP
  have HQ := Lib.hid hQ
  have HR := Lib.hid hr
  have HCP : Hid (∀ b ∈ P, (wrC b).length = 133) := Lib.hid (fun b hb => wrC_length b (hP b hb).2)
  have HCQ : Hid (∀ b ∈ Q, (wrC b).length = 133) := Lib.hid (fun b hb => wrC_length b (hQ b hb).2)
  clear hu hv hP hQ hr
  have HB := Lib.hid (Below.refl w.heap.size w)
  go_enter Try.func59, Try.ntmps59
  by_cases hlen : P.length = Q.length
  · have HLE := Lib.hid hlen
    rw [← hlen] at HV hd1 ⊢
    clear hlen
    have hne : ((P.length : Int) != P.length) = false := by simp
    go_wp2_with fail
    clear hne
    go_loopw [13] (fun i wr => ∃ k : Nat, k ≤ P.length ∧ i = .int .i64 k ∧ Below w.heap.size w wr ∧ P.take k = Q.take k) (fun i _ => P.length - (intOf i).toNat)
    case atStart => exact ⟨0, by omega, rfl, Below.refl _ _, rfl⟩
    case round =>
      obtain ⟨k, hk, rfl, hb, htk⟩ := hrel
      replace HB := Lib.hid hb
      have HTK := Lib.hid htk
      have HU2 := Lib.hid (HU.out.keep HB.out)
      clear hb htk
      have hv2 : SlR wr (.slice y P.length dap) 133 Q.length (Q.flatMap wrC) := SlR.keep HV.out HB.out
      have HV2 := Lib.hid hv2
      clear hv2
      by_cases hlt : k < P.length
      · have hltq : k < Q.length := by have := HLE.out; omega
        obtain ⟨b, o, cap', hve, _, _, _, _⟩ := SlR.pos HU2.out (by decide) (by omega)
        simp only [Value.slice.injEq, true_and] at hve
        obtain ⟨rfl, rfl⟩ := hve
        obtain ⟨b2, o2, cap2, hve, _, _, _, _⟩ := SlR.pos HV2.out (by decide) (by omega)
        simp only [Value.slice.injEq, true_and] at hve
        obtain ⟨rfl, _, rfl⟩ := hve
        have hcu := Lib.hid (flat_at wrC 133 (by decide) HU2.out HCP.out hlt)
        have hcv := Lib.hid (flat_at wrC 133 (by decide) HV2.out HCQ.out hltq)
        have h1 := Lib.hid (HCP.out _ (List.getElem_mem hlt))
        have h2 := Lib.hid (HCQ.out _ (List.getElem_mem hltq))
        obtain ⟨q, hq⟩ : ∃ q, decide (P[k] = Q[k]) = q := ⟨_, rfl⟩
        have HNQ := Lib.hid (wr_neq P[k] Q[k] (HP.out _ (List.getElem_mem hlt)) (HQ.out _ (List.getElem_mem hltq)) q hq)
        have HQ2 := Lib.hid hq
        have HST : Hid (q = true → P.take (k + 1) = Q.take (k + 1)) := by
          refine Lib.hid (fun e => ?_)
          rw [e, decide_eq_true_eq] at hq
          rw [List.take_succ_eq_append_getElem hlt, List.take_succ_eq_append_getElem hltq, HTK.out, hq]
        have HNE : Hid (q = false → P ≠ Q) := by
          refine Lib.hid (fun e he => ?_)
          rw [e, decide_eq_false_iff_not] at hq
          exact hq (by subst he; rfl)
        clear hq
        generalize P[k] = A at *
        generalize Q[k] = B at *
        go_upto_region 6 with (fail)
        refine Agg.chainR 9 (by kernel_rfl) (by kernel_rfl) ?_
        simp only [List.take_succ_cons, List.take_zero, List.drop_succ_cons, List.drop_zero]
        refine Agg.chMove rfl rfl rfl rfl ?_
        refine Agg.chMove rfl rfl rfl rfl ?_
        refine Agg.chIA tiW (by omega) (by omega) rfl rfl rfl rfl rfl ?_
        refine Agg.chRowAt 133 (wrC A) h1.out (by decide +kernel) rfl rfl rfl rfl hcu.out ?_
        refine Agg.chMove rfl rfl rfl rfl ?_
        refine Agg.chMove rfl rfl rfl rfl ?_
        refine Agg.chIA tiW (by omega) (by omega) rfl rfl rfl rfl rfl ?_
        refine Agg.chRowAt 133 (wrC B) h2.out (by decide +kernel) rfl rfl rfl rfl hcv.out ?_
        refine Agg.chBin (v := .bool (!q)) rfl rfl rfl rfl rfl (fun w => flatWr.gd .neq _ _ _ _ w) HNQ.out ?_
        refine Agg.chEnd ?_
        intro vs w1 hb _
        refine Agg.wpNil ?_
        simp only [List.reverse, List.reverseAux, Agg.fill, List.set_cons_succ, List.set_cons_zero]
        replace HB := Lib.hid (HB.out.trans (hb.mono HB.out.size))
        clear hb
        cases q
        · obtain rfl : r = false := by rw [← HR.out]; simpa using HNE.out rfl
          rw [show (!false) = true from rfl]
          go_wp2_with fail
          go_ret
          exact ⟨rfl, HB.out⟩
        · rw [show (!true) = false from rfl]
          go_wp2_with fail
          go_roundw
          case rel => exact ⟨k + 1, by omega, by go_num, HB.out, HST.out rfl⟩
          case measure => simp [intOf]; omega
      · obtain rfl : k = P.length := by omega
        obtain rfl : r = true := by
          rw [← HR.out]
          have := HTK.out
          rw [List.take_length, HLE.out, List.take_length] at this
          simpa using this
        go_wp2_with fail
        go_ret
        exact ⟨rfl, HB.out⟩
  · have hne : ((P.length : Int) != Q.length) = true := by simp; omega
    obtain rfl : r = false := by rw [← HR.out]; simp; intro e; exact hlen (by rw [e])
    clear hlen
    go_wp2_with fail
    go_ret
    exact ⟨rfl, HB.out⟩
set_option maxHeartbeats 4000000 in
set_option maxRecDepth 100000 in
theorem same_D (P Q : List (List Sec)) (C D : List (Int × List Sec)) (x y x2 y2 : Option Addr) (cp cc cp2 cc2 : Nat) (z z2 : Int) (o o2 : Bool) (w : World)
    (hP : ∀ b ∈ P, BOk b) (hQ : ∀ b ∈ Q, BOk b) (hC : ∀ b ∈ C, WOk b) (hD : ∀ b ∈ D, WOk b)
    (h1 : Pgs w (.slice x P.length cp) P) (h2 : Wrs w (.slice y C.length cc) C) (h3 : Pgs w (.slice x2 Q.length cp2) Q) (h4 : Wrs w (.slice y2 D.length cc2) D) (r : Bool) (hr : decide (z = z2 ∧ o = o2 ∧ P = Q ∧ C = D) = r) :
    Calls Try.prog 31 #[.agg #[.slice x P.length cp, .slice y C.length cc, .int .i64 z, .bool o], .agg #[.slice x2 Q.length cp2, .slice y2 D.length cc2, .int .i64 z2, .bool o2]] w fun e w' => e = .returned (.bool r) ∧ Below w.heap.size w w' := by
  have HE1 := Lib.hid (fun W a b => equalB_any P Q (.slice x P.length cp) (.slice x2 Q.length cp2) W a b hP hQ _ rfl)
  have HE2 := Lib.hid (fun W a b => equalW_any C D (.slice y C.length cc) (.slice y2 D.length cc2) W a b hC hD _ rfl)
  have H1 := Lib.hid h1
  have H2 := Lib.hid h2
  have H3 := Lib.hid h3
  have H4 := Lib.hid h4
  have HR := Lib.hid hr
  obtain ⟨q1, hq1⟩ : ∃ q, decide (P = Q) = q := ⟨_, rfl⟩
  obtain ⟨q2, hq2⟩ : ∃ q, decide (C = D) = q := ⟨_, rfl⟩
  rw [hq1] at HE1
  rw [hq2] at HE2
  have HQ1 := Lib.hid hq1
  have HQ2 := Lib.hid hq2
  clear hP hQ hC hD h1 h2 h3 h4 hr hq1 hq2
  have HB := Lib.hid (Below.refl w.heap.size w)
  go_enter Try.func31, Try.ntmps31
  by_cases hz : z = z2
  · subst hz
    by_cases ho : o = o2
    · subst ho
      have hoo : (o == o) = true := by simp
      go_wp2_with fail
      clear hoo
      refine Agg.calls_at fun w1 hw1 => ?_
      have hb : Below w.heap.size w w1 := by rw [hw1.out]; repeat (first | exact Below.refl _ _ | refine Agg.bel_drew ?_ | refine Agg.bel_alloc ?_ _)
      replace HB := Lib.hid (HB.out.trans (hb.mono HB.out.size))
      replace H1 := Lib.hid (H1.out.keep hb)
      replace H2 := Lib.hid (H2.out.keep hb)
      replace H3 := Lib.hid (H3.out.keep hb)
      replace H4 := Lib.hid (H4.out.keep hb)
      clear hb
      have HA : Hid (Blk w1 w.heap.size 30 [.slice x P.length cp, .slice y C.length cc, .int .i64 z, .bool o]) := by show Blk _ _ _ _; rw [hw1.out]; exact (Blk.new w 30 #[.slice x P.length cp, .slice y C.length cc, .int .i64 z, .bool o]).al _
      have HA2 : Hid (Blk w1 (w.heap.size + 1) 30 [.slice x2 Q.length cp2, .slice y2 D.length cc2, .int .i64 z, .bool o]) := by show Blk _ _ _ _; rw [hw1.out]; exact Blk.newAt (w.alloc _) 30 #[.slice x2 Q.length cp2, .slice y2 D.length cc2, .int .i64 z, .bool o] _ (by simp)
      clear hw1
      refine (HE1.out w1 H1.out H3.out).mono ?_
      rintro e w2 ⟨rfl, hb⟩
      replace HB := Lib.hid (HB.out.trans (hb.mono HB.out.size))
      replace H1 := Lib.hid (H1.out.keep hb)
      replace H2 := Lib.hid (H2.out.keep hb)
      replace H3 := Lib.hid (H3.out.keep hb)
      replace H4 := Lib.hid (H4.out.keep hb)
      replace HA := Lib.hid (HA.out.keep hb)
      replace HA2 := Lib.hid (HA2.out.keep hb)
      clear hb
      cases q1
      · obtain rfl : r = false := by rw [← HR.out]; have := HQ1.out; simp only [decide_eq_false_iff_not] at this ⊢; exact fun h => this h.2.2.1
        go_wp2_with fail
        go_ret
        exact ⟨rfl, HB.out⟩
      · have hpq : P = Q := by have := HQ1.out; simpa using this
        have HPQ := Lib.hid hpq
        clear hpq
        have xHA_0 := HA.out.cell 0
        have xHA_1 := HA.out.cell 1
        have xHA_2 := HA.out.cell 2
        have xHA_3 := HA.out.cell 3
        have lHA := HA.out.lt
        simp only [List.getElem?_cons_zero, List.getElem?_cons_succ] at xHA_0 xHA_1 xHA_2 xHA_3
        have xHA2_0 := HA2.out.cell 0
        have xHA2_1 := HA2.out.cell 1
        have xHA2_2 := HA2.out.cell 2
        have xHA2_3 := HA2.out.cell 3
        have lHA2 := HA2.out.lt
        simp only [List.getElem?_cons_zero, List.getElem?_cons_succ] at xHA2_0 xHA2_1 xHA2_2 xHA2_3
        go_wp2_with fail
        clear xHA_0 xHA_1 xHA_2 xHA_3 lHA xHA2_0 xHA2_1 xHA2_2 xHA2_3 lHA2
        refine (HE2.out w2 H2.out H4.out).mono ?_
        rintro e w3 ⟨rfl, hb⟩
        replace HB := Lib.hid (HB.out.trans (hb.mono HB.out.size))
        replace H1 := Lib.hid (H1.out.keep hb)
        replace H2 := Lib.hid (H2.out.keep hb)
        replace H3 := Lib.hid (H3.out.keep hb)
        replace H4 := Lib.hid (H4.out.keep hb)
        replace HA := Lib.hid (HA.out.keep hb)
        replace HA2 := Lib.hid (HA2.out.keep hb)
        clear hb
        obtain rfl : r = q2 := by rw [← HR.out, ← HQ2.out]; simp [HPQ.out]
        go_wp2_with fail
        go_ret
        exact ⟨rfl, HB.out⟩
    · have hoo : (o == o2) = false := by simpa using ho
      obtain rfl : r = false := by rw [← HR.out]; simp [ho]
      clear ho
      go_wp2_with fail
      go_ret
      exact ⟨rfl, bel_alloc (bel_alloc HB.out _) _⟩
  · have hzz : (z == z2) = false := by simpa using hz
    obtain rfl : r = false := by rw [← HR.out]; simp [hz]
    clear hz
    go_wp2_with fail
    go_ret
    exact ⟨rfl, bel_alloc (bel_alloc HB.out _) _⟩
variable {d : Dev} {v : Value} {w : World}
theorem same_R {e : Dev} {u : Value} (hg : DGood d) (hge : DGood e) (hv : DevR w v d) (hu : DevR w u e) (r : Bool) (hr : r = true ↔ d = e) :
    Calls Try.prog 31 #[v, u] w fun z w' => z = .returned (.bool r) ∧ Below w.heap.size w w' := by
  obtain ⟨x, y, cap, cm, rfl, h2, h3⟩ := hv
  obtain ⟨x2, y2, cap2, cm2, rfl, h4, h5⟩ := hu
  refine same_D d.pages e.pages d.cache e.cache x y x2 y2 cap cm cap2 cm2 d.fuse e.fuse d.off e.off w hg.pages hge.pages (DGood.wok hg) (DGood.wok hge) h2 h3 h4 h5 r ?_
  rw [Bool.eq_iff_iff, decide_eq_true_eq, same_iff, hr]
end Go.Proofs.Ytjnnnnolikbjcaa
