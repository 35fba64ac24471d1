/-
  THE WALK OF LAYER 4's STATEMENT SpanJoins.
-/
import Derived.Test.YtcedalenjcbnmaaSpanL6
namespace Go.Proofs.Ytcedalenjcbnmaa
open Go.ChangeShapes Go.WideShapes Go.ChangeAt Go.RowKit Agg

theorem good_spans {w : World} {fuel : Nat} {v : Value} (h : Agg.Good Try.prog w fuel 24 [v]) : ∃ l : List Sp, Spans w v l ∧ ∀ s ∈ l, I64 s.1 ∧ I64 s.2 := by
  obtain ⟨l, h1, h2, _⟩ := good_sl (α := Sp) (by kernel_rfl) (sz := 2) (by kernel_rfl) (fun s => [.int .i64 s.1, .int .i64 s.2]) (fun s => I64 s.1 ∧ I64 s.2) (fun _ => rfl) (fun fuel cs hg => by
    have hf := good_fits fuel 3 31 [some .i64, some .i64] cs (by kernel_rfl) hg
    obtain ⟨x, r, rfl, ⟨a, rfl, ha⟩, hf2⟩ := hf.cons
    obtain ⟨y, r2, rfl, ⟨b, rfl, hb⟩, hf3⟩ := hf2.cons
    rw [hf3.nil]
    exact ⟨(a, b), rfl, i64_wf ha, i64_wf hb⟩) h
  exact ⟨l, h1, h2⟩
theorem in64 {L : List Sp} (h0 : 0 < L.length) (h : ∀ s ∈ L, I64 s.1 ∧ I64 s.2) : I64 (mn (·.1) L) ∧ I64 (mx (·.1) L) ∧ I64 (mn (·.2) L) ∧ I64 (mx (·.2) L) := by
  obtain ⟨_, a, ha, e1⟩ := mn_spec (fun s : Sp => s.1) L h0
  obtain ⟨_, b, hb, e2⟩ := mx_spec (fun s : Sp => s.1) L h0
  obtain ⟨_, c, hc, e3⟩ := mn_spec (fun s : Sp => s.2) L h0
  obtain ⟨_, d, hd, e4⟩ := mx_spec (fun s : Sp => s.2) L h0
  rw [e1, e2, e3, e4]
  exact ⟨(h a ha).1, (h b hb).1, (h c hc).2, (h d hd).2⟩
set_option maxHeartbeats 4000000 in
set_option maxRecDepth 100000 in
theorem joins_any (l : List Sp) (v : Value) (w : World) (hv : Spans w v l) (hl : ∀ s ∈ l, I64 s.1 ∧ I64 s.2) :
    Calls Try.prog 9 #[v] w fun e w' => e = .returned (.bool true) ∧ Below w.heap.size w w' := by
  have HV := Lib.hid hv
  obtain ⟨L, hL⟩ : ∃ L, L = l.take 20 := ⟨_, rfl⟩
  have hLI : ∀ s ∈ L, I64 s.1 ∧ I64 s.2 := by rw [hL]; exact fun s hs => hl s (List.mem_of_mem_take hs)
  have hLN : L.length ≤ 1000 := by rw [hL, List.length_take]; omega
  have HLL := Lib.hid hL
  have HLI := Lib.hid hLI
  have HN := Lib.hid hLN
  clear hv hl hL hLI hLN
  have HB := Lib.hid (Below.refl w.heap.size w)
  go_enter Try.func9, Try.ntmps9
  go_wp2_with fail
  refine (wakes_any w).mono ?_
  rintro e w1 ⟨rfl, hb⟩
  replace HB := Lib.hid (HB.out.trans (hb.mono HB.out.size))
  replace HV := Lib.hid (HV.out.keep hb)
  clear hb
  go_wp2_with fail
  refine (few_any l _ w1 HV.out).mono ?_
  rintro e w2 ⟨u, rfl, hu, hb⟩
  replace HB := Lib.hid (HB.out.trans (hb.mono HB.out.size))
  replace HV := Lib.hid (HV.out.keep hb)
  clear hb
  rw [← HLL.out] at hu
  have HL : Hid (Spans w2 u L) := Lib.hid hu
  obtain ⟨xu, cu, rfl, hu2, hu3⟩ := hu.shape
  unfold maxLen at hu3
  clear hu
  by_cases h0 : 0 < L.length
  · have hgt : (L.length : Int) > 0 := by omega
    go_wp2_with fail
    refine (Lows_any L _ w2 HL.out h0).mono ?_
    rintro e w3 ⟨rfl, hb⟩
    replace HB := Lib.hid (HB.out.trans (hb.mono HB.out.size))
    replace HV := Lib.hid (HV.out.keep hb)
    replace HL := Lib.hid (HL.out.keep hb)
    clear hb
    go_wp2_with fail
    refine (Highs_any L _ w3 HL.out h0).mono ?_
    rintro e w4 ⟨rfl, hb⟩
    replace HB := Lib.hid (HB.out.trans (hb.mono HB.out.size))
    replace HV := Lib.hid (HV.out.keep hb)
    replace HL := Lib.hid (HL.out.keep hb)
    clear hb
    go_wp2_with fail
    have HI := Lib.hid (in64 h0 HLI.out)
    have hj := (tog_end joinF L).trans (by rw [foldF_joinF])
    have hm := (tog_end meetF L).trans (by rw [foldF_meetF])
    have ha := (tog_end leastF L).trans (by rw [foldF_leastF])
    have hb4 := (tog_end mostF L).trans (by rw [foldF_mostF])
    simp only at hj hm ha hb4
    have HI : Hid (I64 (mn (·.1) L) ∧ I64 (mx (·.2) L) ∧ I64 (mx (·.1) L) ∧ I64 (mn (·.2) L)) := Lib.hid ⟨HI.out.1, HI.out.2.2.2, HI.out.2.1, HI.out.2.2.1⟩
    generalize mn (fun x : Sp => x.1) L = lo at *
    generalize mx (fun x : Sp => x.1) L = ls at *
    generalize mn (fun x : Sp => x.2) L = hs at *
    generalize mx (fun x : Sp => x.2) L = hi at *
    clear h0 hgt
    have T1 : Hid (tog joinF L = endR L lo hi) := Lib.hid hj
    have T2 : Hid (tog meetF L = endR L ls hs) := Lib.hid hm
    have T3 : Hid (tog leastF L = endR L lo hs) := Lib.hid ha
    have T4 : Hid (tog mostF L = endR L ls hi) := Lib.hid hb4
    clear hj hm ha hb4
    obtain ⟨⟨j1, j2⟩, ej, hj⟩ : ∃ r e, endR L lo hi = (r, e) := ⟨_, _, rfl⟩
    obtain ⟨⟨m1, m2⟩, em, hm⟩ : ∃ r e, endR L ls hs = (r, e) := ⟨_, _, rfl⟩
    obtain ⟨⟨a1, a2⟩, ea, ha⟩ : ∃ r e, endR L lo hs = (r, e) := ⟨_, _, rfl⟩
    obtain ⟨⟨b1, b2⟩, eb, hb4⟩ : ∃ r e, endR L ls hi = (r, e) := ⟨_, _, rfl⟩
    have HJ := Lib.hid hj
    have HM := Lib.hid hm
    have HA := Lib.hid ha
    have HBB := Lib.hid hb4
    clear hj hm ha hb4
    refine (Join_any L _ w4 HL.out HN.out (j1, j2) ej (T1.out.trans HJ.out)).mono ?_
    rintro e w5 ⟨rfl, hb⟩
    replace HB := Lib.hid (HB.out.trans (hb.mono HB.out.size))
    replace HV := Lib.hid (HV.out.keep hb)
    replace HL := Lib.hid (HL.out.keep hb)
    clear hb
    go_wp2_with fail
    refine Agg.calls_at fun w6 hw6 => ?_
    have hb : Below w5.heap.size w5 w6 := by rw [hw6.out]; repeat (first | exact Below.refl _ _ | refine Agg.bel_drew ?_ | refine Agg.bel_alloc ?_ _)
    replace HB := Lib.hid (HB.out.trans (hb.mono HB.out.size))
    replace HV := Lib.hid (HV.out.keep hb)
    replace HL := Lib.hid (HL.out.keep hb)
    clear hb
    have H8 : Hid (Blk w6 w5.heap.size 31 [.int .i64 j1, .int .i64 j2]) := by show Blk _ _ _ _; rw [hw6.out]; exact Blk.new w5 31 #[.int .i64 j1, .int .i64 j2]
    clear hw6
    refine (Meet_any L _ w6 HL.out HN.out (m1, m2) em (T2.out.trans HM.out)).mono ?_
    rintro e w7 ⟨rfl, hb⟩
    replace HB := Lib.hid (HB.out.trans (hb.mono HB.out.size))
    replace HV := Lib.hid (HV.out.keep hb)
    replace HL := Lib.hid (HL.out.keep hb)
    replace H8 := Lib.hid (H8.out.keep hb)
    clear hb
    go_wp2_with fail
    refine Agg.calls_at fun w8 hw8 => ?_
    have hb : Below w7.heap.size w7 w8 := by rw [hw8.out]; repeat (first | exact Below.refl _ _ | refine Agg.bel_drew ?_ | refine Agg.bel_alloc ?_ _)
    replace HB := Lib.hid (HB.out.trans (hb.mono HB.out.size))
    replace HV := Lib.hid (HV.out.keep hb)
    replace HL := Lib.hid (HL.out.keep hb)
    replace H8 := Lib.hid (H8.out.keep hb)
    clear hb
    have H10 : Hid (Blk w8 w7.heap.size 31 [.int .i64 m1, .int .i64 m2]) := by show Blk _ _ _ _; rw [hw8.out]; exact Blk.new w7 31 #[.int .i64 m1, .int .i64 m2]
    clear hw8
    refine (Least_any L _ w8 HL.out HN.out (a1, a2) ea (T3.out.trans HA.out)).mono ?_
    rintro e w9 ⟨rfl, hb⟩
    replace HB := Lib.hid (HB.out.trans (hb.mono HB.out.size))
    replace HV := Lib.hid (HV.out.keep hb)
    replace HL := Lib.hid (HL.out.keep hb)
    replace H8 := Lib.hid (H8.out.keep hb)
    replace H10 := Lib.hid (H10.out.keep hb)
    clear hb
    go_wp2_with fail
    refine Agg.calls_at fun w10 hw10 => ?_
    have hb : Below w9.heap.size w9 w10 := by rw [hw10.out]; repeat (first | exact Below.refl _ _ | refine Agg.bel_drew ?_ | refine Agg.bel_alloc ?_ _)
    replace HB := Lib.hid (HB.out.trans (hb.mono HB.out.size))
    replace HV := Lib.hid (HV.out.keep hb)
    replace HL := Lib.hid (HL.out.keep hb)
    replace H8 := Lib.hid (H8.out.keep hb)
    replace H10 := Lib.hid (H10.out.keep hb)
    clear hb
    have H12 : Hid (Blk w10 w9.heap.size 31 [.int .i64 a1, .int .i64 a2]) := by show Blk _ _ _ _; rw [hw10.out]; exact Blk.new w9 31 #[.int .i64 a1, .int .i64 a2]
    clear hw10
    refine (Most_any L _ w10 HL.out HN.out (b1, b2) eb (T4.out.trans HBB.out)).mono ?_
    rintro e w11 ⟨rfl, hb⟩
    replace HB := Lib.hid (HB.out.trans (hb.mono HB.out.size))
    replace HV := Lib.hid (HV.out.keep hb)
    replace HL := Lib.hid (HL.out.keep hb)
    replace H8 := Lib.hid (H8.out.keep hb)
    replace H10 := Lib.hid (H10.out.keep hb)
    replace H12 := Lib.hid (H12.out.keep hb)
    clear hb
    go_upto_region 12 with (fail)
    refine Agg.wp_at fun w12 hw12 => ?_
    have hb : Below w11.heap.size w11 w12 := by rw [hw12.out]; repeat (first | exact Below.refl _ _ | refine Agg.bel_drew ?_ | refine Agg.bel_alloc ?_ _)
    replace HB := Lib.hid (HB.out.trans (hb.mono HB.out.size))
    replace HV := Lib.hid (HV.out.keep hb)
    replace HL := Lib.hid (HL.out.keep hb)
    replace H8 := Lib.hid (H8.out.keep hb)
    replace H10 := Lib.hid (H10.out.keep hb)
    replace H12 := Lib.hid (H12.out.keep hb)
    clear hb
    have H14 : Hid (Blk w12 w11.heap.size 31 [.int .i64 b1, .int .i64 b2]) := by show Blk _ _ _ _; rw [hw12.out]; exact Blk.new w11 31 #[.int .i64 b1, .int .i64 b2]
    clear hw12
    refine Agg.listR 33 (by kernel_rfl) ?_
    simp only [List.take_succ_cons, List.take_zero, List.drop_succ_cons, List.drop_zero]
    refine Agg.chRowB 2 H8.out rfl (by decide +kernel) rfl rfl rfl rfl ?_
    refine Agg.chMove rfl rfl rfl rfl ?_
    refine Agg.chMove rfl rfl rfl rfl ?_
    refine Agg.chMove rfl rfl rfl rfl ?_
    refine Agg.chMove rfl rfl rfl rfl ?_
    refine Agg.chCall Try.func38 rfl (by kernel_rfl) rfl rfl rfl rfl (fun W hb => ended_any L _ W (HL.out.keep hb) lo hi HI.out.1 HI.out.2.1 (j1, j2) ej HJ.out) ?_
    refine Agg.chMove rfl rfl rfl rfl ?_
    refine Agg.chRowB 2 H10.out rfl (by decide +kernel) rfl rfl rfl rfl ?_
    refine Agg.chMove rfl rfl rfl rfl ?_
    refine Agg.chMove rfl rfl rfl rfl ?_
    refine Agg.chMove rfl rfl rfl rfl ?_
    refine Agg.chMove rfl rfl rfl rfl ?_
    refine Agg.chCall Try.func38 rfl (by kernel_rfl) rfl rfl rfl rfl (fun W hb => ended_any L _ W (HL.out.keep hb) ls hs HI.out.2.2.1 HI.out.2.2.2 (m1, m2) em HM.out) ?_
    refine Agg.chPick rfl rfl rfl rfl rfl ?_
    refine Agg.chMove rfl rfl rfl rfl ?_
    refine Agg.chRowB 2 H12.out rfl (by decide +kernel) rfl rfl rfl rfl ?_
    refine Agg.chMove rfl rfl rfl rfl ?_
    refine Agg.chMove rfl rfl rfl rfl ?_
    refine Agg.chMove rfl rfl rfl rfl ?_
    refine Agg.chMove rfl rfl rfl rfl ?_
    refine Agg.chCall Try.func38 rfl (by kernel_rfl) rfl rfl rfl rfl (fun W hb => ended_any L _ W (HL.out.keep hb) lo hs HI.out.1 HI.out.2.2.2 (a1, a2) ea HA.out) ?_
    refine Agg.chPick rfl rfl rfl rfl rfl ?_
    refine Agg.chMove rfl rfl rfl rfl ?_
    refine Agg.chRowB 2 H14.out rfl (by decide +kernel) rfl rfl rfl rfl ?_
    refine Agg.chMove rfl rfl rfl rfl ?_
    refine Agg.chMove rfl rfl rfl rfl ?_
    refine Agg.chMove rfl rfl rfl rfl ?_
    refine Agg.chMove rfl rfl rfl rfl ?_
    refine Agg.chCall Try.func38 rfl (by kernel_rfl) rfl rfl rfl rfl (fun W hb => ended_any L _ W (HL.out.keep hb) ls hi HI.out.2.2.1 HI.out.2.1 (b1, b2) eb HBB.out) ?_
    refine Agg.chPick rfl rfl rfl rfl rfl ?_
    refine Agg.chMove rfl rfl rfl rfl ?_
    refine Agg.chMove rfl rfl rfl rfl ?_
    refine Agg.chMove rfl rfl rfl rfl ?_
    refine Agg.chEnd ?_
    intro vs w13 hb _
    simp only [List.reverse, List.reverseAux, Agg.fill, List.set_cons_succ, List.set_cons_zero]
    replace HB := Lib.hid (HB.out.trans (hb.mono HB.out.size))
    replace HV := Lib.hid (HV.out.keep hb)
    replace HL := Lib.hid (HL.out.keep hb)
    replace H8 := Lib.hid (H8.out.keep hb)
    replace H10 := Lib.hid (H10.out.keep hb)
    replace H12 := Lib.hid (H12.out.keep hb)
    replace H14 := Lib.hid (H14.out.keep hb)
    clear hb
    go_wp2_with fail
    refine (few_any l _ w13 HV.out).mono ?_
    rintro e w14 ⟨u2, rfl, hu2, hb⟩
    replace HB := Lib.hid (HB.out.trans (hb.mono HB.out.size))
    replace HV := Lib.hid (HV.out.keep hb)
    replace HL := Lib.hid (HL.out.keep hb)
    replace H8 := Lib.hid (H8.out.keep hb)
    replace H10 := Lib.hid (H10.out.keep hb)
    replace H12 := Lib.hid (H12.out.keep hb)
    replace H14 := Lib.hid (H14.out.keep hb)
    clear hb
    rw [← HLL.out] at hu2
    go_wp2_with fail
    refine (equalS_any L _ _ w14 HL.out hu2 HLI.out).mono ?_
    rintro e w15 ⟨rfl, hb⟩
    replace HB := Lib.hid (HB.out.trans (hb.mono HB.out.size))
    replace HV := Lib.hid (HV.out.keep hb)
    replace HL := Lib.hid (HL.out.keep hb)
    replace H8 := Lib.hid (H8.out.keep hb)
    replace H10 := Lib.hid (H10.out.keep hb)
    replace H12 := Lib.hid (H12.out.keep hb)
    replace H14 := Lib.hid (H14.out.keep hb)
    clear hb
    go_wp2_with fail
    go_ret
    exact ⟨rfl, HB.out⟩
  · have h00 : L.length = 0 := by omega
    have hngt : ¬ (L.length : Int) > 0 := by omega
    have hj := (tog_end joinF L).trans (endR_nil L h00 _ _ 0 0)
    have hm := (tog_end meetF L).trans (endR_nil L h00 _ _ 0 0)
    have ha := (tog_end leastF L).trans (endR_nil L h00 _ _ 0 0)
    have hb4 := (tog_end mostF L).trans (endR_nil L h00 _ _ 0 0)
    have HI : Hid (I64 0 ∧ I64 0 ∧ I64 0 ∧ I64 0) := Lib.hid (by unfold I64; omega)
    clear h00 h0
    go_wp2_with fail
    clear hngt
    have T1 : Hid (tog joinF L = endR L 0 0) := Lib.hid hj
    have T2 : Hid (tog meetF L = endR L 0 0) := Lib.hid hm
    have T3 : Hid (tog leastF L = endR L 0 0) := Lib.hid ha
    have T4 : Hid (tog mostF L = endR L 0 0) := Lib.hid hb4
    clear hj hm ha hb4
    obtain ⟨⟨j1, j2⟩, ej, hj⟩ : ∃ r e, endR L 0 0 = (r, e) := ⟨_, _, rfl⟩
    obtain ⟨⟨m1, m2⟩, em, hm⟩ : ∃ r e, endR L 0 0 = (r, e) := ⟨_, _, rfl⟩
    obtain ⟨⟨a1, a2⟩, ea, ha⟩ : ∃ r e, endR L 0 0 = (r, e) := ⟨_, _, rfl⟩
    obtain ⟨⟨b1, b2⟩, eb, hb4⟩ : ∃ r e, endR L 0 0 = (r, e) := ⟨_, _, rfl⟩
    have HJ := Lib.hid hj
    have HM := Lib.hid hm
    have HA := Lib.hid ha
    have HBB := Lib.hid hb4
    clear hj hm ha hb4
    refine (Join_any L _ w2 HL.out HN.out (j1, j2) ej (T1.out.trans HJ.out)).mono ?_
    rintro e w16 ⟨rfl, hb⟩
    replace HB := Lib.hid (HB.out.trans (hb.mono HB.out.size))
    replace HV := Lib.hid (HV.out.keep hb)
    replace HL := Lib.hid (HL.out.keep hb)
    clear hb
    go_wp2_with fail
    refine Agg.calls_at fun w17 hw17 => ?_
    have hb : Below w16.heap.size w16 w17 := by rw [hw17.out]; repeat (first | exact Below.refl _ _ | refine Agg.bel_drew ?_ | refine Agg.bel_alloc ?_ _)
    replace HB := Lib.hid (HB.out.trans (hb.mono HB.out.size))
    replace HV := Lib.hid (HV.out.keep hb)
    replace HL := Lib.hid (HL.out.keep hb)
    clear hb
    have H8 : Hid (Blk w17 w16.heap.size 31 [.int .i64 j1, .int .i64 j2]) := by show Blk _ _ _ _; rw [hw17.out]; exact Blk.new w16 31 #[.int .i64 j1, .int .i64 j2]
    clear hw17
    refine (Meet_any L _ w17 HL.out HN.out (m1, m2) em (T2.out.trans HM.out)).mono ?_
    rintro e w18 ⟨rfl, hb⟩
    replace HB := Lib.hid (HB.out.trans (hb.mono HB.out.size))
    replace HV := Lib.hid (HV.out.keep hb)
    replace HL := Lib.hid (HL.out.keep hb)
    replace H8 := Lib.hid (H8.out.keep hb)
    clear hb
    go_wp2_with fail
    refine Agg.calls_at fun w19 hw19 => ?_
    have hb : Below w18.heap.size w18 w19 := by rw [hw19.out]; repeat (first | exact Below.refl _ _ | refine Agg.bel_drew ?_ | refine Agg.bel_alloc ?_ _)
    replace HB := Lib.hid (HB.out.trans (hb.mono HB.out.size))
    replace HV := Lib.hid (HV.out.keep hb)
    replace HL := Lib.hid (HL.out.keep hb)
    replace H8 := Lib.hid (H8.out.keep hb)
    clear hb
    have H10 : Hid (Blk w19 w18.heap.size 31 [.int .i64 m1, .int .i64 m2]) := by show Blk _ _ _ _; rw [hw19.out]; exact Blk.new w18 31 #[.int .i64 m1, .int .i64 m2]
    clear hw19
    refine (Least_any L _ w19 HL.out HN.out (a1, a2) ea (T3.out.trans HA.out)).mono ?_
    rintro e w20 ⟨rfl, hb⟩
    replace HB := Lib.hid (HB.out.trans (hb.mono HB.out.size))
    replace HV := Lib.hid (HV.out.keep hb)
    replace HL := Lib.hid (HL.out.keep hb)
    replace H8 := Lib.hid (H8.out.keep hb)
    replace H10 := Lib.hid (H10.out.keep hb)
    clear hb
    go_wp2_with fail
    refine Agg.calls_at fun w21 hw21 => ?_
    have hb : Below w20.heap.size w20 w21 := by rw [hw21.out]; repeat (first | exact Below.refl _ _ | refine Agg.bel_drew ?_ | refine Agg.bel_alloc ?_ _)
    replace HB := Lib.hid (HB.out.trans (hb.mono HB.out.size))
    replace HV := Lib.hid (HV.out.keep hb)
    replace HL := Lib.hid (HL.out.keep hb)
    replace H8 := Lib.hid (H8.out.keep hb)
    replace H10 := Lib.hid (H10.out.keep hb)
    clear hb
    have H12 : Hid (Blk w21 w20.heap.size 31 [.int .i64 a1, .int .i64 a2]) := by show Blk _ _ _ _; rw [hw21.out]; exact Blk.new w20 31 #[.int .i64 a1, .int .i64 a2]
    clear hw21
    refine (Most_any L _ w21 HL.out HN.out (b1, b2) eb (T4.out.trans HBB.out)).mono ?_
    rintro e w22 ⟨rfl, hb⟩
    replace HB := Lib.hid (HB.out.trans (hb.mono HB.out.size))
    replace HV := Lib.hid (HV.out.keep hb)
    replace HL := Lib.hid (HL.out.keep hb)
    replace H8 := Lib.hid (H8.out.keep hb)
    replace H10 := Lib.hid (H10.out.keep hb)
    replace H12 := Lib.hid (H12.out.keep hb)
    clear hb
    go_upto_region 12 with (fail)
    refine Agg.wp_at fun w23 hw23 => ?_
    have hb : Below w22.heap.size w22 w23 := by rw [hw23.out]; repeat (first | exact Below.refl _ _ | refine Agg.bel_drew ?_ | refine Agg.bel_alloc ?_ _)
    replace HB := Lib.hid (HB.out.trans (hb.mono HB.out.size))
    replace HV := Lib.hid (HV.out.keep hb)
    replace HL := Lib.hid (HL.out.keep hb)
    replace H8 := Lib.hid (H8.out.keep hb)
    replace H10 := Lib.hid (H10.out.keep hb)
    replace H12 := Lib.hid (H12.out.keep hb)
    clear hb
    have H14 : Hid (Blk w23 w22.heap.size 31 [.int .i64 b1, .int .i64 b2]) := by show Blk _ _ _ _; rw [hw23.out]; exact Blk.new w22 31 #[.int .i64 b1, .int .i64 b2]
    clear hw23
    refine Agg.listR 33 (by kernel_rfl) ?_
    simp only [List.take_succ_cons, List.take_zero, List.drop_succ_cons, List.drop_zero]
    refine Agg.chRowB 2 H8.out rfl (by decide +kernel) rfl rfl rfl rfl ?_
    refine Agg.chMove rfl rfl rfl rfl ?_
    refine Agg.chMove rfl rfl rfl rfl ?_
    refine Agg.chMove rfl rfl rfl rfl ?_
    refine Agg.chMove rfl rfl rfl rfl ?_
    refine Agg.chCall Try.func38 rfl (by kernel_rfl) rfl rfl rfl rfl (fun W hb => ended_any L _ W (HL.out.keep hb) 0 0 HI.out.1 HI.out.2.1 (j1, j2) ej HJ.out) ?_
    refine Agg.chMove rfl rfl rfl rfl ?_
    refine Agg.chRowB 2 H10.out rfl (by decide +kernel) rfl rfl rfl rfl ?_
    refine Agg.chMove rfl rfl rfl rfl ?_
    refine Agg.chMove rfl rfl rfl rfl ?_
    refine Agg.chMove rfl rfl rfl rfl ?_
    refine Agg.chMove rfl rfl rfl rfl ?_
    refine Agg.chCall Try.func38 rfl (by kernel_rfl) rfl rfl rfl rfl (fun W hb => ended_any L _ W (HL.out.keep hb) 0 0 HI.out.2.2.1 HI.out.2.2.2 (m1, m2) em HM.out) ?_
    refine Agg.chPick rfl rfl rfl rfl rfl ?_
    refine Agg.chMove rfl rfl rfl rfl ?_
    refine Agg.chRowB 2 H12.out rfl (by decide +kernel) rfl rfl rfl rfl ?_
    refine Agg.chMove rfl rfl rfl rfl ?_
    refine Agg.chMove rfl rfl rfl rfl ?_
    refine Agg.chMove rfl rfl rfl rfl ?_
    refine Agg.chMove rfl rfl rfl rfl ?_
    refine Agg.chCall Try.func38 rfl (by kernel_rfl) rfl rfl rfl rfl (fun W hb => ended_any L _ W (HL.out.keep hb) 0 0 HI.out.1 HI.out.2.2.2 (a1, a2) ea HA.out) ?_
    refine Agg.chPick rfl rfl rfl rfl rfl ?_
    refine Agg.chMove rfl rfl rfl rfl ?_
    refine Agg.chRowB 2 H14.out rfl (by decide +kernel) rfl rfl rfl rfl ?_
    refine Agg.chMove rfl rfl rfl rfl ?_
    refine Agg.chMove rfl rfl rfl rfl ?_
    refine Agg.chMove rfl rfl rfl rfl ?_
    refine Agg.chMove rfl rfl rfl rfl ?_
    refine Agg.chCall Try.func38 rfl (by kernel_rfl) rfl rfl rfl rfl (fun W hb => ended_any L _ W (HL.out.keep hb) 0 0 HI.out.2.2.1 HI.out.2.1 (b1, b2) eb HBB.out) ?_
    refine Agg.chPick rfl rfl rfl rfl rfl ?_
    refine Agg.chMove rfl rfl rfl rfl ?_
    refine Agg.chMove rfl rfl rfl rfl ?_
    refine Agg.chMove rfl rfl rfl rfl ?_
    refine Agg.chEnd ?_
    intro vs w24 hb _
    simp only [List.reverse, List.reverseAux, Agg.fill, List.set_cons_succ, List.set_cons_zero]
    replace HB := Lib.hid (HB.out.trans (hb.mono HB.out.size))
    replace HV := Lib.hid (HV.out.keep hb)
    replace HL := Lib.hid (HL.out.keep hb)
    replace H8 := Lib.hid (H8.out.keep hb)
    replace H10 := Lib.hid (H10.out.keep hb)
    replace H12 := Lib.hid (H12.out.keep hb)
    replace H14 := Lib.hid (H14.out.keep hb)
    clear hb
    go_wp2_with fail
    refine (few_any l _ w24 HV.out).mono ?_
    rintro e w25 ⟨u2, rfl, hu2, hb⟩
    replace HB := Lib.hid (HB.out.trans (hb.mono HB.out.size))
    replace HV := Lib.hid (HV.out.keep hb)
    replace HL := Lib.hid (HL.out.keep hb)
    replace H8 := Lib.hid (H8.out.keep hb)
    replace H10 := Lib.hid (H10.out.keep hb)
    replace H12 := Lib.hid (H12.out.keep hb)
    replace H14 := Lib.hid (H14.out.keep hb)
    clear hb
    rw [← HLL.out] at hu2
    go_wp2_with fail
    refine (equalS_any L _ _ w25 HL.out hu2 HLI.out).mono ?_
    rintro e w26 ⟨rfl, hb⟩
    replace HB := Lib.hid (HB.out.trans (hb.mono HB.out.size))
    replace HV := Lib.hid (HV.out.keep hb)
    replace HL := Lib.hid (HL.out.keep hb)
    replace H8 := Lib.hid (H8.out.keep hb)
    replace H10 := Lib.hid (H10.out.keep hb)
    replace H12 := Lib.hid (H12.out.keep hb)
    replace H14 := Lib.hid (H14.out.keep hb)
    clear hb
    go_wp2_with fail
    go_ret
    exact ⟨rfl, HB.out⟩
theorem SpanJoins_walk (v : Value) (f0 : Nat) (w : World) (h0 : Agg.Good Try.prog w f0 24 [v]) :
    Calls Try.prog 9 #[v] w fun e w' => e = .returned (.bool true) ∧ Below w.heap.size w w' := by
  obtain ⟨l, hl, hg⟩ := good_spans h0
  exact joins_any l v w hl hg
end Go.Proofs.Ytcedalenjcbnmaa
