/-
  THE WALKS OF LAYER 8's DOCUMENT: Common, Longest, Cut.
-/
import Derived.Test.YtchpkgneloiidaaPmH
import Derived.Test.YtchpkgneloiidaaHeld
namespace Agg
open Go Go.RowKit
theorem run_slFrom {P : Program} {l0 : List Value} {o : Oper} {w : World} {t : TypeId} {x y : Operand} {u v : Value} {r : Value} (ho : o.op = .slice t x (some y) none none) (hx : ev l0 x = u) (hy : ev l0 y = v) (hr : ∀ w2, (Instr.sliceAt t u (some v) none none).run P w2 = .ok r w2) :
    (execOp (ev l0) o).run P w = .ok (.value r) w := by
  simp only [execOp, ho, Option.map_some, Option.map_none, hx, hy, hr, Sem.run_bind, Result.andThen_ok, Sem.run_pure]
end Agg
namespace Go.Proofs.Ytchpkgneloiidaa
open Go.ChangeShapes Go.WideShapes Go.ChangeAt Go.RowKit Agg Pg Pm
attribute [local go_sem] Oper.semAt_some

set_option maxHeartbeats 4000000 in
set_option maxRecDepth 100000 in
theorem rcom_any (l : List Bd) (v : Value) (w : World) (hl : Bds w v l) (r : Spn × Bool) (hr : docCom l = r) :
    Calls Try.prog 17 #[v] w fun e w' => e = .returned (.tuple #[.agg #[.int .i64 r.1.1, .int .i64 r.1.2], .bool r.2]) ∧ Below w.heap.size w w' := by
  obtain ⟨x, cap, rfl, _⟩ := SlR.shape hl
  have HL0 := Lib.hid hl
  have hln := (Bds.len hl).2
  have HR := Lib.hid hr
  clear hl hr
  have HB := Lib.hid (Below.refl w.heap.size w)
  go_enter Try.func17, Try.ntmps17
  go_upto_region 1 with (fail)
  refine Agg.wp_at fun w1 hw1 => ?_
  have hb : Below w.heap.size w w1 := by rw [hw1.out]; repeat (first | exact Below.refl _ _ | refine Agg.bel_drew ?_ | refine Agg.bel_alloc ?_ _)
  replace HB := Lib.hid (HB.out.trans (hb.mono HB.out.size))
  clear hb
  have HG : Hid (Blk w1 w.heap.size 26 [.int .i64 0, .int .i64 0]) := by show Blk _ _ _ _; rw [hw1.out]; exact Blk.new w 26 #[.int .i64 0, .int .i64 0]
  clear hw1
  have hgl := HG.out.lt
  go_upto_region 2 with (fail)
  refine Agg.wp_at fun w2 hw2 => ?_
  have hb : Below w1.heap.size w1 w2 := by rw [hw2.out]; repeat (first | exact Below.refl _ _ | refine Agg.bel_drew ?_ | refine Agg.bel_alloc ?_ _)
  replace HB := Lib.hid (HB.out.trans (hb.mono HB.out.size))
  replace HG := Lib.hid (HG.out.keep hb)
  clear hb
  have HX : Hid (Blk w2 w1.heap.size 26 [.int .i64 0, .int .i64 0]) := by show Blk _ _ _ _; rw [hw2.out]; exact Blk.new w1 26 #[.int .i64 0, .int .i64 0]
  clear hw2
  obtain ⟨gx, hgx⟩ : ∃ n, w1.heap.size = n := ⟨_, rfl⟩
  obtain ⟨gr, hgr⟩ : ∃ n, w.heap.size = n := ⟨_, rfl⟩
  rw [hgx] at HX hgl ⊢
  rw [hgr] at HG hgl ⊢
  have hwr : w.heap.size ≤ gr := by omega
  have hwx : w.heap.size ≤ gx := by omega
  have hne : gr ≠ gx := by omega
  clear hgx hgr hgl
  go_wp2_with fail
  go_loopw [5, 10] (fun s5 ix wr => ∃ (k : Nat) (st : Spn × Bool), k ≤ l.length ∧ ix = .int .i64 k ∧ (l.take k).foldl (dStep l) ((0, 0), false) = st ∧ s5 = .bool st.2 ∧ Blk wr gr 26 [.int .i64 0, .int .i64 0] ∧ Blk wr gx 26 [.int .i64 st.1.1, .int .i64 st.1.2] ∧ Below w.heap.size w wr) (fun _ ix _ => l.length - (intOf ix).toNat)
  case atStart => exact ⟨0, ((0, 0), false), by omega, rfl, rfl, rfl, HG.out, HX.out, HB.out⟩
  case round =>
    obtain ⟨k, ⟨⟨a1, a2⟩, a3⟩, hk, rfl, hst, rfl, hg, hx, hb⟩ := hrel
    have HST := Lib.hid hst
    replace HG := Lib.hid hg
    replace HX := Lib.hid hx
    replace HB := Lib.hid hb
    have HL := Lib.hid (SlR.keep HL0.out hb)
    clear hst hg hx hb
    obtain ⟨wA, hwA⟩ : ∃ x, x = wr := ⟨_, rfl⟩
    subst hwA
    simp only at HX ⊢
    by_cases hlt : k < l.length
    · obtain ⟨b, o, cap', hve, _, _, _, _⟩ := SlR.pos HL.out (by decide) (by omega)
      simp only [Value.slice.injEq, true_and] at hve
      obtain ⟨rfl, rfl⟩ := hve
      have hrow := flat_at bdC 3 (by decide) HL.out (fun b hb => rfl) hlt
      have hstp : (l.take (k + 1)).foldl (dStep l) ((0, 0), false) = dStep l ((a1, a2), a3) l[k] := by
        rw [List.take_succ_eq_append_getElem hlt, List.foldl_append, HST.out]; rfl
      obtain ⟨r, hr⟩ : ∃ r, l[k]'hlt = r := ⟨_, rfl⟩
      rw [hr] at hrow hstp
      clear hr HST
      obtain ⟨t, lo, hi⟩ := r
      obtain ⟨q1, hq1⟩ : ∃ q, thrB l lo = q := ⟨_, rfl⟩
      obtain ⟨q2, hq2⟩ : ∃ q, thrB l hi = q := ⟨_, rfl⟩
      unfold dStep at hstp
      simp only [hq1, hq2] at hstp
      have HSTP := Lib.hid hstp
      have HQ1 := Lib.hid hq1
      have HQ2 := Lib.hid hq2
      clear hstp hq1 hq2
      go_upto_region 6 with (first
        | (refine Agg.gLoad 3 [.int .i64 t, .int .i64 lo, .int .i64 hi] rfl rfl rfl (by decide +kernel) rfl hrow ?_; simp only [Act.put, List.setIfInBounds_toArray, List.set_cons_succ, List.set_cons_zero])
        | (refine Agg.allocRow 36 #[.int .i64 0, .int .i64 0, .int .i64 0] rfl rfl (by kernel_rfl) ?_; simp only [Act.put, List.setIfInBounds_toArray, List.set_cons_succ, List.set_cons_zero])
        | (refine Agg.gStoreNew 3 [.int .i64 t, .int .i64 lo, .int .i64 hi] rfl rfl rfl rfl rfl rfl (by decide +kernel) rfl rfl rfl ?_; simp only [Act.put]))
      clear hrow
      refine Agg.wp_at fun w21 hw21 => ?_
      have hb : Below wA.heap.size wA w21 := by rw [hw21.out]; repeat (first | exact Below.refl _ _ | refine Agg.bel_drew ?_ | refine Agg.bel_alloc ?_ _)
      replace HB := Lib.hid (HB.out.trans (hb.mono HB.out.size))
      replace HL := Lib.hid (HL.out.keep hb)
      replace HG := Lib.hid (HG.out.keep hb)
      replace HX := Lib.hid (HX.out.keep hb)
      clear hb
      have HY : Hid (Blk w21 wA.heap.size 36 [.int .i64 t, .int .i64 lo, .int .i64 hi]) := by show Blk _ _ _ _; rw [hw21.out]; exact Blk.new wA 36 #[.int .i64 t, .int .i64 lo, .int .i64 hi]
      clear hw21
      generalize wA.heap.size = gy at *
      have hyx : Hid (gy ≠ gx) := Lib.hid fun e => by subst e; have h1 := HY.out; have h2 := HX.out; unfold Blk at h1 h2; rw [h1] at h2; cases h2
      have x1 := HY.out.cell 1
      simp only [List.getElem?_cons_succ, List.getElem?_cons_zero] at x1
      go_wp2_with fail
      clear x1
      refine (rthr_any l _ lo w21 HL.out q1 HQ1.out).mono ?_
      rintro e w22 ⟨rfl, hb⟩
      replace HB := Lib.hid (HB.out.trans (hb.mono HB.out.size))
      replace HL := Lib.hid (HL.out.keep hb)
      replace HG := Lib.hid (HG.out.keep hb)
      replace HX := Lib.hid (HX.out.keep hb)
      replace HY := Lib.hid (HY.out.keep hb)
      clear hb
      cases q1
      · go_upto_region 8 with (fail)
        have x2 := HY.out.cell 2
        simp only [List.getElem?_cons_succ, List.getElem?_cons_zero] at x2
        go_wp2_with fail
        clear x2
        refine (rthr_any l _ hi w22 HL.out q2 HQ2.out).mono ?_
        rintro e w23 ⟨rfl, hb⟩
        replace HB := Lib.hid (HB.out.trans (hb.mono HB.out.size))
        replace HL := Lib.hid (HL.out.keep hb)
        replace HG := Lib.hid (HG.out.keep hb)
        replace HX := Lib.hid (HX.out.keep hb)
        replace HY := Lib.hid (HY.out.keep hb)
        clear hb
        cases q2
        · go_wp2_with fail
          exact ⟨⟨k + 1, ((a1, a2), a3), by omega, by go_num, HSTP.out, rfl, HG.out, HX.out, HB.out⟩, by simp [intOf]; omega⟩
        · have _v := hwx
          have x2 := HY.out.cell 2
          have hx := HX.out
          simp only [List.getElem?_cons_succ, List.getElem?_cons_zero] at x2
          go_wp2_with (refine Agg.gStoreCell 1 (.int .i64 hi) hx rfl rfl rfl rfl rfl (by kernel_rfl) rfl (by simp) rfl (fun w7 hb7 hg7 => ?_))
          simp only [spliced, List.take_succ_cons, List.take_zero, List.drop_succ_cons, List.drop_zero, List.length_cons, List.length_nil, List.nil_append, List.cons_append, List.drop_nil, List.append_nil] at hb7
          exact ⟨⟨k + 1, ((a1, hi), a3), by omega, by go_num, HSTP.out, rfl, HG.out.far' hg7 hne, hb7, HB.out.trans (grown_below hg7 HB.out.size (fun j hj => by cases hj; exact hwx))⟩, by simp [intOf]; omega⟩
      · have _u := hwx
        have x1 := HY.out.cell 1
        have hx := HX.out
        simp only [List.getElem?_cons_succ, List.getElem?_cons_zero] at x1
        go_upto_region 8 with (refine Agg.gStoreCell 0 (.int .i64 lo) hx rfl rfl rfl rfl rfl (by kernel_rfl) rfl (by simp) rfl (fun w5 hb5 hg5 => ?_))
        simp only [spliced, List.take_zero, List.drop_succ_cons, List.drop_zero, List.length_cons, List.length_nil, List.nil_append, List.cons_append, List.drop_nil, List.append_nil] at hb5
        clear hx x1
        have hbg := grown_below hg5 HB.out.size (fun j hj => by cases hj; exact hwx)
        replace HB := Lib.hid (HB.out.trans hbg)
        replace HL := Lib.hid (SlR.keep HL0.out HB.out)
        replace HG := Lib.hid (HG.out.far' hg5 hne)
        replace HX := Lib.hid hb5
        replace HY := Lib.hid (HY.out.far' hg5 hyx.out)
        clear hbg hb5 hg5
        have x2 := HY.out.cell 2
        simp only [List.getElem?_cons_succ, List.getElem?_cons_zero] at x2
        go_wp2_with fail
        clear x2
        refine (rthr_any l _ hi w5 HL.out q2 HQ2.out).mono ?_
        rintro e w24 ⟨rfl, hb⟩
        replace HB := Lib.hid (HB.out.trans (hb.mono HB.out.size))
        replace HL := Lib.hid (HL.out.keep hb)
        replace HG := Lib.hid (HG.out.keep hb)
        replace HX := Lib.hid (HX.out.keep hb)
        replace HY := Lib.hid (HY.out.keep hb)
        clear hb
        cases q2
        · go_wp2_with fail
          exact ⟨⟨k + 1, ((lo, a2), true), by omega, by go_num, HSTP.out, rfl, HG.out, HX.out, HB.out⟩, by simp [intOf]; omega⟩
        · have _v := hwx
          have x2 := HY.out.cell 2
          have hx := HX.out
          simp only [List.getElem?_cons_succ, List.getElem?_cons_zero] at x2
          go_wp2_with (refine Agg.gStoreCell 1 (.int .i64 hi) hx rfl rfl rfl rfl rfl (by kernel_rfl) rfl (by simp) rfl (fun w7 hb7 hg7 => ?_))
          simp only [spliced, List.take_succ_cons, List.take_zero, List.drop_succ_cons, List.drop_zero, List.length_cons, List.length_nil, List.nil_append, List.cons_append, List.drop_nil, List.append_nil] at hb7
          exact ⟨⟨k + 1, ((lo, hi), true), by omega, by go_num, HSTP.out, rfl, HG.out.far' hg7 hne, hb7, HB.out.trans (grown_below hg7 HB.out.size (fun j hj => by cases hj; exact hwx))⟩, by simp [intOf]; omega⟩
    · obtain rfl : k = l.length := by omega
      have hd : ((a1, a2), a3) = r := by have := HST.out; rw [List.take_length] at this; rw [← this]; exact HR.out
      subst hd
      have hg := HG.out
      have hx := HX.out
      go_wp2_with (first
        | (refine Agg.gLoadB 2 hx rfl rfl rfl rfl (by decide +kernel) ?_; simp only [Act.put, List.setIfInBounds_toArray, List.set_cons_succ, List.set_cons_zero]; clear hx)
        | (refine Agg.gStoreB 2 [.int .i64 a1, .int .i64 a2] hg rfl rfl rfl rfl rfl (by decide +kernel) rfl rfl (by simp [Value.oneCell']) (fun w14 hb14 hg14 => ?_)))
      refine bodyPost_ret (results_row2 (m := 2) rfl hb14 rfl (by decide +kernel) rfl) rfl ⟨rfl, ?_⟩
      exact HB.out.trans (grown_below hg14 HB.out.size (fun j hj => by cases hj; exact hwr))
theorem docOk_le {l : List Bd} (hok : Okb l) {k : Nat} (hk : k < l.length) : (docCom (l.take (k + 1))).2 = true ↔ k < (longest l).2 := by
  have hne : l ≠ [] := fun e => by subst e; simp at hk
  have hl2 : (l.take (k + 1)).length = k + 1 := by rw [List.length_take]; omega
  rw [docCom_ok (fun e => by rw [e] at hl2; simp at hl2) (hok.take _)]
  constructor
  · rintro ⟨v, hv⟩
    exact longest_most hne hok (j := k + 1) hk hv
  · intro h
    obtain ⟨t, n, h1, h2, h3, h4, h5, h6⟩ := longest_spec hne hok
    rw [h1] at h
    have h7 := (h5 t.1).1 ⟨Int.le_refl _, h4⟩
    exact ⟨t.1, fun b hb => h7 b (by
      rw [show l.take (k + 1) = (l.take n).take (k + 1) by rw [List.take_take, Nat.min_eq_left (by exact h)]] at hb
      exact List.mem_of_mem_take hb)⟩
set_option maxHeartbeats 4000000 in
set_option maxRecDepth 100000 in
theorem rlong_any (l : List Bd) (v : Value) (w : World) (hl : Bds w v l) (hok : Okb l) (h100 : l.length ≤ 1000) (n : Nat) (hn : (longest l).2 = n) :
    Calls Try.prog 21 #[v] w fun e w' => e = .returned (.int .i64 (n : Int)) ∧ Below w.heap.size w w' := by
  obtain ⟨x, cap, rfl, hcap, _⟩ := SlR.shape hl
  have HL0 := Lib.hid hl
  have hnl := longest_le hok
  rw [hn] at hnl
  have hdo : ∀ k, k < l.length → ((docCom (l.take (k + 1))).2 = true ↔ k < n) := fun k hk => by rw [docOk_le hok hk, hn]
  have HDO := Lib.hid hdo
  clear hl hok hn hdo
  have HB := Lib.hid (Below.refl w.heap.size w)
  go_enter Try.func21, Try.ntmps21
  go_wp2_with fail
  go_loopw [3] (fun ix wr => ∃ (k : Nat), k ≤ n ∧ ix = .int .i64 k ∧ Below w.heap.size w wr) (fun ix _ => l.length - (intOf ix).toNat)
  case atStart => exact ⟨0, by omega, rfl, HB.out⟩
  case round =>
    obtain ⟨k, hk, rfl, hb⟩ := hrel
    replace HB := Lib.hid hb
    have HL := Lib.hid (SlR.keep HL0.out hb)
    clear hb
    obtain ⟨wA, hwA⟩ : ∃ x, x = wr := ⟨_, rfl⟩
    subst hwA
    by_cases hlt : k < l.length
    · have hd := HDO.out k hlt
      have HT := Lib.hid (bds_take HL.out (k + 1) hlt)
      have htl : (l.take (k + 1)).length = k + 1 := by rw [List.length_take]; omega
      obtain ⟨⟨⟨a1, a2⟩, a3⟩, hr⟩ : ∃ r, docCom (l.take (k + 1)) = r := ⟨_, rfl⟩
      rw [hr] at hd
      have HR := Lib.hid hr
      have HD := Lib.hid hd
      clear hr hd
      have hkc : (k : Int) + 1 ≤ cap := by omega
      go_wp2_with fail
      refine (rcom_any (l.take (k + 1)) _ wA HT.out ((a1, a2), a3) HR.out).mono ?_
      rintro e w21 ⟨rfl, hb⟩
      replace HB := Lib.hid (HB.out.trans (hb.mono HB.out.size))
      clear hb
      cases a3
      · have hd := HD.out
        have hkn : k = n := by simp at hd; omega
        subst hkn
        clear hd HD HR HT
        go_wp2_with (first
          | (refine Agg.allocRow 26 #[.int .i64 0, .int .i64 0] rfl rfl (by kernel_rfl) ?_; simp only [Act.put, List.setIfInBounds_toArray, List.set_cons_succ, List.set_cons_zero])
          | (refine Agg.gStoreNew 2 [.int .i64 a1, .int .i64 a2] rfl rfl rfl rfl rfl rfl (by decide +kernel) rfl rfl rfl ?_; simp only [Act.put]))
        go_ret
        exact ⟨rfl, bel_alloc HB.out _⟩
      · have hd := HD.out
        have hkn : k < n := by simp at hd; omega
        clear hd HD HR HT
        go_wp2_with (first
          | (refine Agg.allocRow 26 #[.int .i64 0, .int .i64 0] rfl rfl (by kernel_rfl) ?_; simp only [Act.put, List.setIfInBounds_toArray, List.set_cons_succ, List.set_cons_zero])
          | (refine Agg.gStoreNew 2 [.int .i64 a1, .int .i64 a2] rfl rfl rfl rfl rfl rfl (by decide +kernel) rfl rfl rfl ?_; simp only [Act.put]))
        exact ⟨⟨k + 1, by omega, by go_num, bel_alloc HB.out _⟩, by simp [intOf]; omega⟩
    · obtain rfl : k = n := by omega
      have hlt2 : ¬ (k : Int) < l.length := by omega
      go_wp2_with fail
      go_ret
      exact ⟨rfl, HB.out⟩
theorem lit_int (n : Int) (w : World) : (Instr.buildSlice 43 1 #[(0, .int .i64 n)]).run Try.prog w = .ok (.slice (some ⟨w.heap.size, 0, none⟩) 1 1) (w.alloc (.cells #[.int .i64 n] 3)) := by
  obtain ⟨i, hi, hz, hsz, _⟩ := tiI.info
  refine run_buildSlice w _ _ 1 _ #[.int .i64 n] i _ tiI.ht hi hz (by rw [hsz]; decide) (by rw [hsz]; decide) ?_
  rw [hsz]
  have e1 : (Value.int .i64 n).cells = #[.int .i64 n] := rfl
  have e2 : (Value.int .i64 0).cells = #[.int .i64 0] := rfl
  simp [Instr.fill, e1, e2, Array.range]
  rfl
set_option maxHeartbeats 4000000 in
set_option maxRecDepth 100000 in
theorem rcut_any (l : List Bd) (v : Value) (w : World) (hl : Bds w v l) (hok : Okb l) (h100 : l.length ≤ 1000) (C : List Nat) (hC : cut l = C) :
    Calls Try.prog 23 #[v] w fun e w' => ∃ u, e = .returned u ∧ w'.ownsRow w.heap.size 3 1 u C.length (nC C) ∧ Below w.heap.size w w' := by
  obtain ⟨x, cap, rfl, hcap, _⟩ := SlR.shape hl
  have HL0 := Lib.hid hl
  have HOK := Lib.hid hok
  have HC := Lib.hid hC
  have hcl := cut_len hok
  rw [hC] at hcl
  clear hl hok hC
  have HB := Lib.hid (Below.refl w.heap.size w)
  go_enter Try.func23, Try.ntmps23
  go_wp2_with fail
  go_loopw [0, 3] (fun s0 s3 wr => ∃ (k i : Nat) (y : Option Addr) (c : Nat), k ≤ C.length ∧ i ≤ l.length ∧ C.drop k = cut (l.drop i) ∧ s0 = .slice y (l.length - i) c ∧ Bds w (.slice y (l.length - i) c) (l.drop i) ∧ wr.ownsRow w.heap.size 3 1 s3 k (nC (C.take k)) ∧ Below w.heap.size w wr) (fun s0 _ _ => match s0 with | .slice _ n _ => n | _ => 0)
  case atStart => exact ⟨0, 0, x, cap, by omega, by omega, by rw [List.drop_zero, List.drop_zero]; exact HC.out.symm, by simp, by simpa using HL0.out, World.ownsRow_nil _ _ _ _, HB.out⟩
  case round =>
    obtain ⟨k, i, y2, c2, hk, hi, hd, rfl, hbd, ho, hb⟩ := hrel
    have HD := Lib.hid hd
    have HR := Lib.hid hbd
    have HO := Lib.hid ho
    replace HB := Lib.hid hb
    obtain ⟨ux, uc, rfl, _, _⟩ := (ownSl ho).shape
    clear hd hbd ho hb
    obtain ⟨wA, hwA⟩ : ∃ x, x = wr := ⟨_, rfl⟩
    subst hwA
    by_cases hlt : i < l.length
    · have hdl : (l.drop i).length = l.length - i := List.length_drop ..
      have hne : l.drop i ≠ [] := fun e => by rw [e] at hdl; simp at hdl; omega
      have hst := cut_step hne (HOK.out.drop i)
      have hn1 := longest_pos hne (HOK.out.drop i)
      have hn2 := longest_le (HOK.out.drop i)
      obtain ⟨n, hn⟩ : ∃ n, (longest (l.drop i)).2 = n := ⟨_, rfl⟩
      rw [hn] at hst hn1 hn2
      rw [List.drop_drop, ← HD.out] at hst
      have hkl : k < C.length := by
        have h := congrArg List.length hst
        rw [List.length_drop, List.length_cons] at h; omega
      rw [List.drop_eq_getElem_cons hkl] at hst
      obtain ⟨e1, e2⟩ := List.cons.inj hst
      have hsn := nC_snoc hkl
      rw [e1] at hsn
      have HD2 := Lib.hid e2
      have HSN := Lib.hid hsn
      have HN := Lib.hid hn
      have HOD := Lib.hid (HOK.out.drop i)
      have hdd : (l.drop i).drop n = l.drop (i + n) := List.drop_drop ..
      have HDD := Lib.hid hdd
      clear hst hne e1 e2 hsn hn HD hdd
      obtain ⟨R, hR⟩ : ∃ R, l.drop i = R := ⟨_, rfl⟩
      obtain ⟨rn, hrn⟩ : ∃ n, l.length - i = n := ⟨_, rfl⟩
      rw [hR] at HR HN HOD HDD hdl hn2
      rw [hrn] at HR hdl ⊢
      subst hdl
      have h0b : (R.length : Int) > 0 := by omega
      have HRW := Lib.hid (SlR.keep HR.out HB.out)
      go_wp2_with fail
      refine (rlong_any R _ wA HRW.out HOD.out (by omega) n HN.out).mono ?_
      rintro e w21 ⟨rfl, hb⟩
      replace HB := Lib.hid (HB.out.trans (hb.mono HB.out.size))
      replace HRW := Lib.hid (HRW.out.keep hb)
      replace HO := Lib.hid (HO.out.keep hb)
      clear hb
      obtain ⟨y3, c3, hsl, hbd3⟩ := slice_rest tiBd HR.out n hn2
      rw [HDD.out] at hbd3
      have HR3 := Lib.hid hbd3
      clear hbd3
      go_upto_region 4 with (fail)
      refine Agg.heldBegin (S := fun _ => True) 9 (by kernel_rfl) rfl ?_
      have hb0 : Below w21.heap.size w21 w21.drew := bel_drew (Below.refl _ _)
      generalize w21.drew = z0 at hb0 ⊢
      replace HB := Lib.hid (HB.out.trans (hb0.mono HB.out.size))
      replace HO := Lib.hid (own_keep HO.out hb0)
      clear hb0 HR HRW
      refine Agg.heldTake (i := 0) (by decide +kernel) rfl rfl rfl (v := .slice ux k uc) (fun z _ => Agg.run_move rfl rfl) trivial ?_
      refine Agg.heldTake (i := 1) (by decide +kernel) rfl rfl rfl (v := .int .i64 (n : Int)) (fun z _ => Agg.run_move rfl rfl) trivial ?_
      refine Agg.heldTake (i := 4) (by decide +kernel) rfl rfl rfl (v := .slice y2 R.length c2) (fun z _ => Agg.run_move rfl rfl) trivial ?_
      refine Agg.heldTake (i := 5) (by decide +kernel) rfl rfl rfl (v := .int .i64 (n : Int)) (fun z _ => Agg.run_move rfl rfl) trivial ?_
      refine Agg.heldTake (i := 6) (by decide +kernel) rfl rfl rfl (v := .slice y3 (R.length - n) c3) (fun z _ => by exact Agg.run_slFrom rfl rfl rfl hsl) trivial ?_
      refine Agg.heldOne (i := 2) (by decide +kernel) rfl rfl rfl (v := .slice (some ⟨z0.heap.size, 0, none⟩) 1 1) (w' := z0.alloc (.cells #[.int .i64 (n : Int)] 3)) (by exact Agg.run_buildSl (ps := [(0, .tmp 11)]) #[.int .i64 (n : Int)] rfl (by exact lit_int n z0)) trivial ?_
      have hbA : Below z0.heap.size z0 (z0.alloc (.cells #[.int .i64 (n : Int)] 3)) := (Below.refl _ _).alloc (Nat.le_refl _) _
      have hC3 := own_keep HO.out hbA
      have hsl2 : SlR (z0.alloc (.cells #[.int .i64 (n : Int)] 3)) (.slice (some ⟨z0.heap.size, 0, none⟩) 1 1) 1 1 [.int .i64 (n : Int)] := NewSl.sl (b0 := 0) (e := 3) ⟨_, rfl, Nat.zero_le _, Blk.new z0 3 #[.int .i64 (n : Int)]⟩ rfl (by unfold maxLen; decide)
      have HBA := Lib.hid (HB.out.trans (hbA.mono HB.out.size))
      refine Agg.heldAppend tiI (.tmp 10) (.tmp 12) (i := 3) (by decide +kernel) rfl rfl rfl rfl w.heap.size (v := .slice ux k uc) rfl hC3 rfl hsl2 (by simp [Value.oneCell']) (by unfold maxLen; omega) (by omega) HBA.out.size (fun v' w4 hC4 hg4 hwh => ⟨trivial, ?_⟩)
      refine Agg.heldOne (i := 7) (by decide +kernel) rfl rfl rfl (v := v') (w' := w4) (Agg.run_assign rfl rfl) trivial ?_
      refine Agg.heldOne (i := 8) (by decide +kernel) rfl rfl rfl (v := .slice y3 (R.length - n) c3) (w' := w4) (Agg.run_assign rfl rfl) trivial ?_
      refine Agg.heldDone (by decide +kernel) ?_
      simp only [List.set_cons_succ, List.set_cons_zero]
      have hB4 := HBA.out.trans (grown_below hg4 HBA.out.size (own_block hC3))
      have hC5 : w4.ownsRow w.heap.size 3 1 v' (k + 1) (nC (C.take (k + 1))) := by rw [HSN.out]; exact hC4
      have HB4 := Lib.hid hB4
      have HC5 := Lib.hid hC5
      clear hB4 hC5 hC4 hg4 hwh hsl2 hC3 hbA HB HBA HO hsl
      go_wp2_with fail
      have hrl : R.length - n = l.length - (i + n) := by omega
      rw [hrl] at HR3 ⊢
      exact ⟨⟨k + 1, i + n, y3, c3, by omega, by omega, HD2.out, rfl, HR3.out, HC5.out, HB4.out⟩, by simp only; omega⟩
    · obtain rfl : i = l.length := by omega
      have hd := HD.out
      rw [List.drop_length, cut_nil] at hd
      have hkx : k = C.length := by have h := congrArg List.length hd; rw [List.length_drop] at h; simp at h; omega
      subst hkx
      have HO2 : Hid (wA.ownsRow w.heap.size 3 1 (.slice ux C.length uc) C.length (nC C)) := Lib.hid (by have := HO.out; rwa [List.take_length] at this)
      clear HO hd HD
      rw [Nat.sub_self]
      go_wp2_with fail
      go_ret
      exact ⟨_, rfl, HO2.out, HB.out⟩
end Go.Proofs.Ytchpkgneloiidaa
