/-
  THE LOG: a device in memory of its own; what arguments hold.
-/
import Derived.Test.YtlddjcilbpcciaaLFdDw3
import Derived.Test.YtlddjcilbpcciaaLhP
section
namespace Go.Proofs.Ytlddjcilbpcciaa
open Go.ChangeShapes Go.WideShapes Go.ChangeAt Go.RowKit Agg Pg Dv Lg
attribute [local go_sem] Oper.semAt_some

/-- what each device that is read has -/
structure DevW (d : Dev) : Prop where
  pages : ∀ b ∈ d.pages, BOk b
  cache : ∀ x ∈ d.cache, BOk x.2
  nums : ∀ x ∈ d.cache, (Lit.int .i64 x.1).wf = true
def ownD (d : Dev) : Dev := { d with pages := d.pages.take 300, cache := d.cache.take 300 }
theorem ownD_good {d : Dev} (h : DevW d) : DGood (ownD d) :=
  ⟨fun b hb => h.pages b (List.mem_of_mem_take hb), fun b hb => h.cache b (List.mem_of_mem_take hb), fun b hb => h.nums b (List.mem_of_mem_take hb), by show (d.pages.take 300).length ≤ _; rw [List.length_take]; omega⟩
theorem ownD_len (d : Dev) : (ownD d).cache.length ≤ 300 := by show (d.cache.take 300).length ≤ _; rw [List.length_take]; omega
theorem flat_take {α : Type} (f : α → List Value) (m : Nat) (l : List α) (k : Nat) (h : ∀ x ∈ l, (f x).length = m) : (l.flatMap f).take (k * m) = (l.take k).flatMap f := by
  induction l generalizing k with
  | nil => simp
  | cons x l ih =>
    cases k with
    | zero => simp
    | succ k =>
      have hx := h x (by simp)
      rw [List.flatMap_cons, List.take_succ_cons, List.flatMap_cons, Nat.succ_mul, Nat.add_comm, List.take_append, hx, List.take_of_length_le (by omega), Nat.add_sub_cancel_left, ih k (fun y hy => h y (by simp [hy]))]
set_option maxHeartbeats 4000000 in
set_option maxRecDepth 100000 in
theorem lown_any (d : Dev) (dv : Value) (w : World) (hd : DevW d) (hf1 : -9223372036854775808 ≤ d.fuse) (hf2 : d.fuse ≤ 9223372036854775807) (hD : DevR w dv d) :
    Calls Try.prog 12 #[dv] w fun e w' => ∃ v, e = .returned v ∧ DevO w.heap.size w' v (ownD d) ∧ Below w.heap.size w w' := by
  obtain ⟨px, cx, pc, cc, rfl, hk2, hk3⟩ := hD
  obtain ⟨_, _, e1, hp1, hp2⟩ := hk2.shape
  cases e1
  obtain ⟨_, _, e1, hc1, hc2⟩ := hk3.shape
  cases e1
  unfold maxLen at hp2 hc2
  obtain ⟨np, hnp⟩ : ∃ k, k = min d.pages.length 300 := ⟨_, rfl⟩
  obtain ⟨nc, hnc⟩ : ∃ k, k = min d.cache.length 300 := ⟨_, rfl⟩
  have HP := Lib.hid (SlR.take hk2 np (by omega))
  have HC := Lib.hid (SlR.take hk3 nc (by omega))
  rw [flat_take blkC 132 _ _ (fun b hb => bok_cells (hd.pages b hb))] at HP
  rw [flat_take wrC 133 _ _ (fun x hx => wrC_length x (hd.cache x hx))] at HC
  have HL : Hid ((ownD d).pages = d.pages.take np ∧ (ownD d).cache = d.cache.take nc ∧ (ownD d).pages.length = np ∧ (ownD d).cache.length = nc) := by
    refine Lib.hid ⟨?_, ?_, ?_, ?_⟩
    · show d.pages.take 300 = _
      rw [hnp, Nat.min_comm, ← List.take_take, List.take_length]
    · show d.cache.take 300 = _
      rw [hnc, Nat.min_comm, ← List.take_take, List.take_length]
    · show (d.pages.take 300).length = _
      rw [List.length_take]; omega
    · show (d.cache.take 300).length = _
      rw [List.length_take]; omega
  have H1P : Hid (∀ u ∈ (d.pages.take np).flatMap blkC, u.oneCell' = true) := Lib.hid (pgs_one _)
  have H1C : Hid (∀ u ∈ (d.cache.take nc).flatMap wrC, u.oneCell' = true) := Lib.hid (fun u hu => by
    obtain ⟨x, _, hx⟩ := List.mem_flatMap.1 hu
    exact wrC_one x u hx)
  have hmp : min (d.pages.length : Int) 300 = (np : Int) := by omega
  have hmc : min (d.cache.length : Int) 300 = (nc : Int) := by omega
  have HMP := Lib.hid hmp
  have HMC := Lib.hid hmc
  have hnp3 : np ≤ 300 := by omega
  have hnc3 : nc ≤ 300 := by omega
  have hnpc : np ≤ pc := by omega
  have hncc : nc ≤ cc := by omega
  obtain ⟨fu, hfu⟩ : ∃ f, d.fuse = f := ⟨_, rfl⟩
  obtain ⟨of, hof⟩ : ∃ f, d.off = f := ⟨_, rfl⟩
  have HFO : Hid ((ownD d).fuse = fu ∧ (ownD d).off = of) := Lib.hid ⟨hfu, hof⟩
  rw [hfu, hof]
  rw [hfu] at hf1 hf2
  obtain ⟨O, hO⟩ : ∃ O, ownD d = O := ⟨_, rfl⟩
  rw [hO] at HL HFO
  rw [hO]
  obtain ⟨lp, hlp⟩ : ∃ n, d.pages.length = n := ⟨_, rfl⟩
  obtain ⟨lc, hlc⟩ : ∃ n, d.cache.length = n := ⟨_, rfl⟩
  obtain ⟨P, hP⟩ : ∃ P, d.pages.take np = P := ⟨_, rfl⟩
  obtain ⟨C, hC⟩ : ∃ C, d.cache.take nc = C := ⟨_, rfl⟩
  rw [hlp] at hp1 HMP ⊢
  rw [hlc] at hc1 HMC ⊢
  rw [hP] at HP HL H1P
  rw [hC] at HC HL H1C
  clear hk2 hk3 hd hnp hnc hmp hmc hfu hof hO hlp hlc hP hC
  have HC0 := HC
  have HB := Lib.hid (Below.refl w.heap.size w)
  go_enter Try.func12, Try.ntmps12
  go_upto_region 1 with (fail)
  refine Agg.wp_at fun w1 hw1 => ?_
  have hb : Below w.heap.size w w1 := by rw [hw1.out]; repeat (first | exact Below.refl _ _ | refine Agg.bel_drew ?_ | refine Agg.bel_alloc ?_ _)
  replace HB := Lib.hid (HB.out.trans (hb.mono HB.out.size))
  replace HP := Lib.hid (HP.out.keep hb)
  replace HC := Lib.hid (HC.out.keep hb)
  clear hb
  have H1 : Hid (Blk w1 w.heap.size 28 [.slice px lp pc, .slice cx lc cc, .int .i64 fu, .bool of]) := by show Blk _ _ _ _; rw [hw1.out]; exact (Blk.new w 28 #[.slice px lp pc, .slice cx lc cc, .int .i64 fu, .bool of]).al _
  have H2 : Hid (Blk w1 (w.heap.size + 1) 28 [.slice none 0 0, .slice none 0 0, .int .i64 0, .bool false]) := by show Blk _ _ _ _; rw [hw1.out]; exact Blk.newAt (w.alloc _) 28 #[.slice none 0 0, .slice none 0 0, .int .i64 0, .bool false] _ (by simp)
  have HSW : Hid (w1.heap.size = w.heap.size + 2) := by show _ = _; rw [hw1.out]; simp
  clear hw1
  have hbA : Below w1.heap.size w1 (w1.alloc (.cells #[] 54)) := (Below.refl _ _).alloc (Nat.le_refl _) _
  have hown := World.ownsRow_lit (e := 54) (size := 132) (base := w1.heap.size) w1 #[] 0 (Nat.le_refl _) (by decide) rfl
  have hsl := HP.out.keep hbA
  have hmin := HMP.out
  have hone := H1P.out
  have xH1_0 := H1.out.cell 0
  have xH1_1 := H1.out.cell 1
  have xH1_2 := H1.out.cell 2
  have xH1_3 := H1.out.cell 3
  have lH1 := H1.out.lt
  simp only [List.getElem?_cons_zero, List.getElem?_cons_succ] at xH1_0 xH1_1 xH1_2 xH1_3
  have h1A := H1.out.keep hbA
  have hsu := fun W : World => run_slice_upto tiBl px lp pc np hnpc W
  have HSU := Lib.hid hsu
  clear hsu
  go_upto_region 2 with (first
    | (refine Agg.min2 _ _ _ (np : Int) rfl rfl rfl rfl hmin ?_; simp only [Act.put, List.setIfInBounds_toArray, List.set_cons_succ, List.set_cons_zero])
    | (refine Agg.gSliceUp (.slice px np pc) rfl rfl rfl rfl HSU.out ?_; simp only [Act.put, List.setIfInBounds_toArray, List.set_cons_succ, List.set_cons_zero])
    | (refine Agg.append2 tiBl _ _ rfl rfl w1.heap.size (v := .slice (some ⟨w1.heap.size, 0, none⟩) 0 0) rfl hown rfl hsl hone (by unfold maxLen; omega) (by omega) hbA.size ?_; intro v2 w2 ho2 hg2 _; obtain ⟨v2x, v2c, rfl, _, _⟩ := (ownSl ho2).shape; simp only [Act.put, List.setIfInBounds_toArray, List.set_cons_succ, List.set_cons_zero])
    | (refine Agg.gStoreCell 0 (.slice v2x (0 + np) v2c) (blk_row h1A hg2 (own_apart hown h1A (by decide))) rfl rfl rfl rfl rfl (by kernel_rfl) rfl (by simp) rfl (fun w3 hb3 hg3 => ?_)))
  clear xH1_0 xH1_1 xH1_2 xH1_3 lH1
  have hs0 := HSW.out
  have h23 := (blk_row (H2.out.keep hbA) hg2 (own_apart hown (H2.out.keep hbA) (by decide))).far' hg3 (by omega)
  have ho3 := ho2.kept hg3 (own_off ho2 (by omega))
  have hbw2 := (HB.out.trans (hbA.mono HB.out.size)).trans (grown_below hg2 (Nat.le_trans HB.out.size hbA.size) (fun j e => Nat.le_trans HB.out.size (own_block hown j e)))
  have hbw3 := hbw2.trans (grown_below hg3 hbw2.size (fun j e => by cases e; exact Nat.le_refl _))
  have hC3 := HC0.out.keep hbw3
  simp only [spliced, List.take_zero, List.drop_succ_cons, List.nil_append, List.length_cons, List.length_nil, List.drop_zero, List.cons_append, Nat.zero_add] at hb3 ho3
  have HO3 := Lib.hid (own_base ho3 (show w.heap.size + 2 ≤ w1.heap.size by omega))
  have HBW := Lib.hid hbw3
  have H13 := Lib.hid hb3
  have H23 := Lib.hid h23
  have HC3 := Lib.hid hC3
  have hs2 := hg2.size
  have hs3 := hg3.size
  have hsA := hbA.size
  have hsz3 : w.heap.size + 2 ≤ w3.heap.size := by omega
  clear hs0 h23 ho3 hbw2 hbw3 hC3 hb3 hg2 hg3 ho2 hown hsl hmin hone h1A HSU HP HC H1 H2 HSW HMP H1P hbA HB hs2 hs3 hsA
  have HB := HBW
  clear HBW
  rw [Nat.zero_add]
  have hbA : Below w3.heap.size w3 (w3.alloc (.cells #[] 78)) := (Below.refl _ _).alloc (Nat.le_refl _) _
  have hown := World.ownsRow_lit (e := 78) (size := 133) (base := w3.heap.size) w3 #[] 0 (Nat.le_refl _) (by decide) rfl
  have hsl := HC3.out.keep hbA
  have hmin := HMC.out
  have hone := H1C.out
  have xH13_0 := H13.out.cell 0
  have xH13_1 := H13.out.cell 1
  have xH13_2 := H13.out.cell 2
  have xH13_3 := H13.out.cell 3
  have lH13 := H13.out.lt
  simp only [List.getElem?_cons_zero, List.getElem?_cons_succ] at xH13_0 xH13_1 xH13_2 xH13_3
  have h1A := H13.out.keep hbA
  have hsu := fun W : World => run_slice_upto tiW cx lc cc nc hncc W
  have HSU := Lib.hid hsu
  clear hsu
  go_upto_region 3 with (first
    | (refine Agg.min2 _ _ _ (nc : Int) rfl rfl rfl rfl hmin ?_; simp only [Act.put, List.setIfInBounds_toArray, List.set_cons_succ, List.set_cons_zero])
    | (refine Agg.gSliceUp (.slice cx nc cc) rfl rfl rfl rfl HSU.out ?_; simp only [Act.put, List.setIfInBounds_toArray, List.set_cons_succ, List.set_cons_zero])
    | (refine Agg.append2 tiW _ _ rfl rfl w3.heap.size (v := .slice (some ⟨w3.heap.size, 0, none⟩) 0 0) rfl hown rfl hsl hone (by unfold maxLen; omega) (by omega) hbA.size ?_; intro v4 w4 ho4 hg4 _; obtain ⟨v4x, v4c, rfl, _, _⟩ := (ownSl ho4).shape; simp only [Act.put, List.setIfInBounds_toArray, List.set_cons_succ, List.set_cons_zero])
    | (refine Agg.gStoreCell 1 (.slice v4x (0 + nc) v4c) (blk_row h1A hg4 (own_apart hown h1A (by decide))) rfl rfl rfl rfl rfl (by kernel_rfl) rfl (by simp) rfl (fun w5 hb5 hg5 => ?_)))
  clear xH13_0 xH13_1 xH13_2 xH13_3 lH13
  have h25 := (blk_row (H23.out.keep hbA) hg4 (own_apart hown (H23.out.keep hbA) (by decide))).far' hg5 (by omega)
  have ho5 := ho4.kept hg5 (own_off ho4 (by omega))
  have hp4 := (HO3.out.keep hbA).kept hg4 (own_own (HO3.out.keep hbA) hown (by decide))
  have hp5 := hp4.kept hg5 (own_off hp4 (by omega))
  have hbw4 := (HB.out.trans (hbA.mono HB.out.size)).trans (grown_below hg4 (Nat.le_trans HB.out.size hbA.size) (fun j e => Nat.le_trans HB.out.size (own_block hown j e)))
  have hbw5 := hbw4.trans (grown_below hg5 hbw4.size (fun j e => by cases e; exact Nat.le_refl _))
  simp only [spliced, List.take_zero, List.take_succ_cons, List.drop_succ_cons, List.nil_append, List.length_cons, List.length_nil, List.drop_zero, List.cons_append, Nat.zero_add, Nat.reduceAdd] at hb5 ho5
  have ho6 := own_base ho5 (show w.heap.size + 2 ≤ w3.heap.size by omega)
  have hs5 : w.heap.size + 1 < w5.heap.size := h25.lt
  clear hown hsl hmin hone h1A HSU HMC H1C hbA hg4 hg5 ho4 ho5 hp4 hbw4 HC3 H13 H23 HO3 HB
  go_wp2_with (first
    | (refine Agg.gLoadB 4 hb5 rfl rfl rfl rfl (by decide +kernel) ?_; simp only [Act.put, List.setIfInBounds_toArray, List.set_cons_succ, List.set_cons_zero])
    | (refine Agg.gStoreB 4 [.slice v2x np v2c, .slice v4x nc v4c, .int .i64 fu, .bool of] h25 rfl rfl rfl rfl rfl (by decide +kernel) rfl rfl (by simp [Value.oneCell']) (fun w7 hb7 hg7 => ?_)))
  refine bodyPost_ret (results_row1 (m := 4) rfl hb7 rfl (by decide +kernel) rfl) rfl ⟨_, rfl, ⟨.slice v2x np v2c, .slice v4x nc v4c, by rw [HFO.out.1, HFO.out.2], ?_, ?_⟩, ?_⟩
  · have h := own_base (hp5.kept hg7 (own_off hp5 (by omega))) (show w.heap.size ≤ w.heap.size + 2 by omega)
    rw [HL.out.2.2.1, HL.out.1]; exact h
  · have h := own_base (ho6.kept hg7 (own_off ho6 (by omega))) (show w.heap.size ≤ w.heap.size + 2 by omega)
    rw [HL.out.2.2.2, HL.out.2.1]; exact h
  · exact hbw5.trans (grown_below hg7 hbw5.size (fun j e => by cases e; omega))
end Go.Proofs.Ytlddjcilbpcciaa
end
section
/-
  THE LOG: rows of groups, compared; replays.
-/
namespace Lg
open Go Go.RowKit Agg Pg Dv
theorem rows2_at {w : World} {b o n cap : Nat} {ls : List (List UInt8)} (h : Rows2 w (.slice (some ⟨b, o, none⟩) n cap) ls) {k : Nat} (hk : k < ls.length) : ∃ x c, w.cell? ⟨b, o + k, none⟩ = some (.slice x ls[k].length c) ∧ Bytes w (.slice x ls[k].length c) ls[k] := by
  obtain ⟨vs, h1, h2⟩ := h
  obtain ⟨u, hu, hb⟩ := h2 k ls[k] (List.getElem?_eq_getElem hk)
  obtain ⟨b', o', cap', hve, _, _, hcm, _⟩ := SlR.pos h1 (by decide) (by omega)
  simp only [Value.slice.injEq] at hve
  obtain ⟨hve, _⟩ := hve
  cases hve
  obtain ⟨x, c, rfl, _, _⟩ := SlR.shape hb
  exact ⟨x, c, hcm k _ hu, hb⟩
theorem rows2_shape {w : World} {v : Value} {ls : List (List UInt8)} (h : Rows2 w v ls) : ∃ x c, v = .slice x ls.length c ∧ ls.length ≤ c ∧ c ≤ maxLen := by
  obtain ⟨vs, h1, _⟩ := h
  exact SlR.shape h1
theorem rows2_pos {w : World} {v : Value} {ls : List (List UInt8)} (h : Rows2 w v ls) (h0 : 0 < ls.length) : ∃ b o c, v = .slice (some ⟨b, o, none⟩) ls.length c := by
  obtain ⟨vs, h1, _⟩ := h
  obtain ⟨b, o, c, h2, _⟩ := SlR.pos h1 (by decide) h0
  exact ⟨b, o, c, h2⟩
theorem rows2_nil (w : World) : Rows2 w (.slice none 0 0) [] := ⟨[], SlR.nil _ _, fun i l h => by simp at h⟩
end Lg
namespace Go.Proofs.Ytlddjcilbpcciaa
open Go.ChangeShapes Go.WideShapes Go.ChangeAt Go.RowKit Agg Pg Dv Lg
attribute [local go_sem] Oper.semAt_some

theorem GrpO.rows {w : World} {b : Nat} {u : Value} {gs : List (List UInt8)} (h : GrpO w b u gs) : Rows2 w u gs := by
  obtain ⟨vs, h1, h2, h3⟩ := h
  refine ⟨vs, ownSl h1, fun i l hl => ?_⟩
  have hi : i < vs.length := by have := (List.getElem?_eq_some_iff.1 hl).1; omega
  exact ⟨vs[i], List.getElem?_eq_getElem hi, ownSl (h3 i _ l (List.getElem?_eq_getElem hi) hl)⟩
set_option maxHeartbeats 4000000 in
set_option maxRecDepth 100000 in
theorem eqF_any (a b : List (List UInt8)) (u v : Value) (w : World) (hu : Rows2 w u a) (hv : Rows2 w v b) (r : Bool) (hr : decide (a = b) = r) :
    Calls Try.prog 17 #[u, v, .func (.func 18) #[] #[]] w fun e w' => e = .returned (.bool r) ∧ Below w.heap.size w w' := by
  obtain ⟨ux, uc, rfl, _, hu2⟩ := rows2_shape hu
  obtain ⟨vx, vc, rfl, _, hv2⟩ := rows2_shape hv
  unfold maxLen at hu2 hv2
  have HU0 := Lib.hid hu
  have HV0 := Lib.hid hv
  have HR := Lib.hid hr
  clear hu hv hr
  have HB := Lib.hid (Below.refl w.heap.size w)
  go_enter Try.func17, Try.ntmps17
  by_cases hl : a.length = b.length
  · have hlb : ((a.length : Int) != (b.length : Int)) = false := by simp [hl]
    have hlen := hl
    have HLEN := Lib.hid hlen
    clear hl hlen
    go_wp2_with fail
    go_loopw [17] (fun ix wr => ∃ k : Nat, k ≤ a.length ∧ ix = .int .i64 k ∧ a.take k = b.take k ∧ Below w.heap.size w wr) (fun ix _ => a.length - (intOf ix).toNat)
    case atStart => exact ⟨0, by omega, rfl, rfl, HB.out⟩
    case round =>
      obtain ⟨k, hk, rfl, he, hb⟩ := hrel
      have HE := Lib.hid he
      have HB := Lib.hid hb
      have HU := Lib.hid (HU0.out.keep hb)
      have HV := Lib.hid (HV0.out.keep hb)
      clear he hb
      obtain ⟨wA, hwA⟩ : ∃ x, x = wr := ⟨_, rfl⟩
      subst hwA
      by_cases hlt : k < a.length
      · have hlt2 : k < b.length := by rw [← HLEN.out]; exact hlt
        obtain ⟨ub, uo, uc', hve⟩ := rows2_pos HU.out (by omega)
        injection hve with e1 e2 e3
        subst e1; subst e3; clear e2
        obtain ⟨vb, vo, vc', hve⟩ := rows2_pos HV.out (by omega)
        injection hve with e1 e2 e3
        subst e1; subst e3; clear e2
        obtain ⟨x1, c1, h1, hy1⟩ := rows2_at HU.out hlt
        obtain ⟨x2, c2, h2, hy2⟩ := rows2_at HV.out hlt2
        have ht1 := List.take_succ_eq_append_getElem hlt
        have ht2 := List.take_succ_eq_append_getElem hlt2
        obtain ⟨l1, hl1⟩ : ∃ l, a[k] = l := ⟨_, rfl⟩
        obtain ⟨l2, hl2⟩ : ∃ l, b[k] = l := ⟨_, rfl⟩
        rw [hl1] at h1 hy1 ht1
        rw [hl2] at h2 hy2 ht2
        obtain ⟨q, hq⟩ : ∃ q, decide (l1 = l2) = q := ⟨_, rfl⟩
        have HQ := Lib.hid hq
        have HT1 := Lib.hid ht1
        have HT2 := Lib.hid ht2
        have HY1 := Lib.hid hy1
        have HY2 := Lib.hid hy2
        have HLT : Hid (l1 ≠ l2 → a ≠ b) := Lib.hid (fun hne e => by subst e; exact hne (hl1.symm.trans hl2))
        clear hq ht1 ht2 hl1 hl2 hy1 hy2
        go_wp2_with fail
        clear h1 h2
        refine (bEqual_any l1 l2 _ _ wA HY1.out HY2.out q HQ.out).mono ?_
        rintro e w21 ⟨rfl, hb⟩
        replace HB := Lib.hid (HB.out.trans (hb.mono HB.out.size))
        clear hb
        cases q
        · have hrf : r = false := by
            have h := HQ.out
            rw [← HR.out, decide_eq_false_iff_not]
            exact HLT.out (by simpa using h)
          subst hrf
          go_wp2_with fail
          go_ret
          exact ⟨rfl, HB.out⟩
        · have hq : l1 = l2 := by simpa using HQ.out
          have hte : a.take (k + 1) = b.take (k + 1) := by rw [HT1.out, HT2.out, HE.out, hq]
          have HTE := Lib.hid hte
          clear hq hte
          go_wp2_with fail
          exact ⟨⟨k + 1, by omega, by go_num, HTE.out, HB.out⟩, by simp [intOf]; omega⟩
      · obtain rfl : k = a.length := by omega
        have hrt : r = true := by
          have h := HE.out
          rw [List.take_length, HLEN.out, List.take_length] at h
          rw [← HR.out, decide_eq_true_eq]; exact h
        subst hrt
        go_wp2_with fail
        go_ret
        exact ⟨rfl, HB.out⟩
  · have hlb : ((a.length : Int) != (b.length : Int)) = true := by simp; omega
    have hrf : r = false := by rw [← HR.out, decide_eq_false_iff_not]; exact fun e => hl (by rw [e])
    subst hrf
    go_wp2_with fail
    go_ret
    exact ⟨rfl, HB.out⟩
theorem repA_bound {d : Dev} {after : Nat} (hd : DGood d) (ha : after < 18446744073709551616) : (repA d after).2.1 ≤ 16 ∧ (repA d after).2.2 < 18446744073709551616 := by
  unfold repA
  split
  · obtain ⟨_, _, _, h1, _, _, h2⟩ := rep_facts (atL_bok hd) 16 0 after (by decide) (by decide)
    exact ⟨h1, by omega⟩
  · exact ⟨by decide, by decide⟩
set_option maxHeartbeats 4000000 in
set_option maxRecDepth 100000 in
theorem replays_any (d : Dev) (after : Nat) (gs : List (List UInt8)) (at1 last1 : Nat) (dv gv : Value) (w : World) (hd : DGood d) (hc : d.cache.length ≤ 1000000) (hD : DevR w dv d) (hl : after < 18446744073709551616) (hg : Rows2 w gv gs) (ha : at1 ≤ 100) (hl1 : last1 < 18446744073709551616) (r : Bool) (hr : decide (askL d = 0 ∧ repA d after = (gs, at1, last1)) = r) :
    Calls Try.prog 27 #[dv, .int .u64 (after : Int), gv, .agg #[.int .i64 (at1 : Int), .int .u64 (last1 : Int)]] w fun e w' => e = .returned (.bool r) ∧ Below w.heap.size w w' := by
  obtain ⟨gx, gc, rfl, _, _⟩ := rows2_shape hg
  obtain ⟨px, cx, pc, cc, rfl, hk2, hk3⟩ := hD
  have hD : DevR w (.agg #[.slice px d.pages.length pc, .slice cx d.cache.length cc, .int .i64 d.fuse, .bool d.off]) d := ⟨px, cx, pc, cc, rfl, hk2, hk3⟩
  have hb := repA_bound hd hl
  have HRP := Lib.hid (fun W v hv => Replay_any d after v W hd hc hv hl)
  have HD := Lib.hid hD
  have HG := Lib.hid hg
  obtain ⟨⟨G, A, B⟩, hR⟩ : ∃ R, repA d after = R := ⟨_, rfl⟩
  obtain ⟨y, hy⟩ : ∃ y, askL d = y := ⟨_, rfl⟩
  rw [hR, hy] at HRP hr
  rw [hR] at hb
  dsimp only at HRP hb
  have HR := Lib.hid hr
  clear hk2 hk3 hD hg hR hy hd hc hr
  have HB := Lib.hid (Below.refl w.heap.size w)
  go_enter Try.func27, Try.ntmps27
  go_upto_region 1 with (fail)
  refine Agg.wp_at fun w1 hw1 => ?_
  have hb : Below w.heap.size w w1 := by rw [hw1.out]; repeat (first | exact Below.refl _ _ | refine Agg.bel_drew ?_ | refine Agg.bel_alloc ?_ _)
  replace HB := Lib.hid (HB.out.trans (hb.mono HB.out.size))
  replace HD := Lib.hid (HD.out.keep hb)
  replace HG := Lib.hid (HG.out.keep hb)
  clear hb
  have H4 : Hid (Blk w1 w.heap.size 28 [.slice px d.pages.length pc, .slice cx d.cache.length cc, .int .i64 d.fuse, .bool d.off]) := by show Blk _ _ _ _; rw [hw1.out]; exact (Blk.new w 28 #[.slice px d.pages.length pc, .slice cx d.cache.length cc, .int .i64 d.fuse, .bool d.off]).al _
  have H7 : Hid (Blk w1 (w.heap.size + 1) 33 [.int .i64 (at1 : Int), .int .u64 (last1 : Int)]) := by show Blk _ _ _ _; rw [hw1.out]; exact Blk.newAt (w.alloc _) 33 #[.int .i64 (at1 : Int), .int .u64 (last1 : Int)] _ (by simp)
  clear hw1
  have h4 := H4.out
  go_wp2_with (refine Agg.gLoadB 4 h4 rfl rfl rfl rfl (by decide +kernel) ?_; simp only [Act.put, List.setIfInBounds_toArray, List.set_cons_succ, List.set_cons_zero])
  clear h4
  refine (HRP.out w1 _ HD.out).mono ?_
  rintro e w2 ⟨u, rfl, hu, hb⟩
  replace HB := Lib.hid (HB.out.trans (hb.mono HB.out.size))
  replace HD := Lib.hid (HD.out.keep hb)
  replace HG := Lib.hid (HG.out.keep hb)
  replace H4 := Lib.hid (H4.out.keep hb)
  replace H7 := Lib.hid (H7.out.keep hb)
  clear hb
  obtain ⟨ux, uc, rfl, _, _⟩ := rows2_shape hu.rows
  have HU := Lib.hid hu.rows
  clear hu HRP HD H4
  go_upto_region 2 with (first
    | (refine Agg.allocRow 33 #[.int .i64 0, .int .u64 0] rfl rfl (by kernel_rfl) ?_; simp only [Act.put, List.setIfInBounds_toArray, List.set_cons_succ, List.set_cons_zero])
    | (refine Agg.gStoreNew 2 [.int .i64 (A : Int), .int .u64 (B : Int)] rfl rfl rfl rfl rfl rfl (by decide +kernel) rfl rfl (by simp [Value.oneCell']) ?_; simp only [Act.put]))
  refine Agg.wp_at fun w3 hw3 => ?_
  have hb : Below w2.heap.size w2 w3 := by rw [hw3.out]; repeat (first | exact Below.refl _ _ | refine Agg.bel_drew ?_ | refine Agg.bel_alloc ?_ _)
  replace HB := Lib.hid (HB.out.trans (hb.mono HB.out.size))
  replace HG := Lib.hid (HG.out.keep hb)
  replace H7 := Lib.hid (H7.out.keep hb)
  replace HU := Lib.hid (HU.out.keep hb)
  clear hb
  have H10 : Hid (Blk w3 w2.heap.size 33 [.int .i64 (A : Int), .int .u64 (B : Int)]) := by show Blk _ _ _ _; rw [hw3.out]; exact Blk.new w2 33 #[.int .i64 (A : Int), .int .u64 (B : Int)]
  clear hw3
  generalize w2.heap.size = g10 at *
  by_cases hy0 : y = 0
  · subst hy0
    obtain ⟨q, hq⟩ : ∃ q, decide ((A : Int) = (at1 : Int) ∧ B = last1) = q := ⟨_, rfl⟩
    obtain ⟨q2, hq2⟩ : ∃ q, decide (G = gs) = q := ⟨_, rfl⟩
    have hrq : r = (q && q2) := by
      rw [← HR.out, ← hq, ← hq2]
      rw [Bool.eq_iff_iff, Bool.and_eq_true, decide_eq_true_eq, decide_eq_true_eq, decide_eq_true_eq]
      constructor
      · rintro ⟨_, e⟩
        cases e
        exact ⟨⟨rfl, rfl⟩, rfl⟩
      · rintro ⟨⟨e1, e2⟩, e3⟩
        have e4 : A = at1 := by omega
        subst e4; subst e2; subst e3
        exact ⟨rfl, rfl⟩
    subst hrq
    have HQ := Lib.hid hq
    have HQ2 := Lib.hid hq2
    clear hq hq2 HR
    cases q
    · refine Agg.listR 11 (by kernel_rfl) ?_
      simp only [List.take_succ_cons, List.take_zero, List.drop_succ_cons, List.drop_zero]
      refine Agg.chMove rfl rfl rfl rfl ?_
      refine Agg.chEq true (by decide) rfl rfl rfl rfl rfl ?_
      refine Agg.chMove rfl rfl rfl rfl ?_
      refine Agg.chRowB 2 H10.out rfl (by decide +kernel) rfl rfl rfl rfl ?_
      refine Agg.chRowB 2 H7.out rfl (by decide +kernel) rfl rfl rfl rfl ?_
      refine Agg.chBin (v := .bool false) rfl rfl rfl rfl rfl (fun w => flatLog.gd .eql _ _ _ _ w) (fun w => log_eql _ _ _ _ (by omega) (by omega) (by omega) (by omega) false HQ.out w) ?_
      refine Agg.chPick rfl rfl rfl rfl rfl ?_
      refine Agg.chMove rfl rfl rfl rfl ?_
      refine Agg.chSkip rfl rfl ?_
      refine Agg.chSkip rfl rfl ?_
      refine Agg.chSkip rfl rfl ?_
      refine Agg.chEnd ?_
      intro vs w4 hb _
      simp only [List.reverse, List.reverseAux, Agg.fill, List.set_cons_succ, List.set_cons_zero]
      replace HB := Lib.hid (HB.out.trans (hb.mono HB.out.size))
      replace HG := Lib.hid (HG.out.keep hb)
      replace H7 := Lib.hid (H7.out.keep hb)
      replace HU := Lib.hid (HU.out.keep hb)
      replace H10 := Lib.hid (H10.out.keep hb)
      clear hb
      go_wp2_with fail
      go_ret
      exact ⟨rfl, HB.out⟩
    · refine Agg.listR 11 (by kernel_rfl) ?_
      simp only [List.take_succ_cons, List.take_zero, List.drop_succ_cons, List.drop_zero]
      refine Agg.chMove rfl rfl rfl rfl ?_
      refine Agg.chEq true (by decide) rfl rfl rfl rfl rfl ?_
      refine Agg.chMove rfl rfl rfl rfl ?_
      refine Agg.chRowB 2 H10.out rfl (by decide +kernel) rfl rfl rfl rfl ?_
      refine Agg.chRowB 2 H7.out rfl (by decide +kernel) rfl rfl rfl rfl ?_
      refine Agg.chBin (v := .bool true) rfl rfl rfl rfl rfl (fun w => flatLog.gd .eql _ _ _ _ w) (fun w => log_eql _ _ _ _ (by omega) (by omega) (by omega) (by omega) true HQ.out w) ?_
      refine Agg.chPick rfl rfl rfl rfl rfl ?_
      refine Agg.chMove rfl rfl rfl rfl ?_
      refine Agg.chMove rfl rfl rfl rfl ?_
      refine Agg.chMove rfl rfl rfl rfl ?_
      refine Agg.chCall Try.func17 rfl (by kernel_rfl) rfl rfl rfl rfl (fun W hb => eqF_any G gs _ _ W (Agg.Rows2.keep HU.out hb) (Agg.Rows2.keep HG.out hb) q2 HQ2.out) ?_
      refine Agg.chEnd ?_
      intro vs w5 hb _
      simp only [List.reverse, List.reverseAux, Agg.fill, List.set_cons_succ, List.set_cons_zero]
      replace HB := Lib.hid (HB.out.trans (hb.mono HB.out.size))
      replace HG := Lib.hid (HG.out.keep hb)
      replace H7 := Lib.hid (H7.out.keep hb)
      replace HU := Lib.hid (HU.out.keep hb)
      replace H10 := Lib.hid (H10.out.keep hb)
      clear hb
      go_wp2_with fail
      go_ret
      exact ⟨rfl, HB.out⟩
  · have hyb : (y == 0) = false := beq_false_of_ne hy0
    have hrf : r = false := by rw [← HR.out, decide_eq_false_iff_not]; exact fun h => hy0 h.1
    subst hrf
    refine Agg.listR 11 (by kernel_rfl) ?_
    simp only [List.take_succ_cons, List.take_zero, List.drop_succ_cons, List.drop_zero]
    refine Agg.chMove rfl rfl rfl rfl ?_
    refine Agg.chEq false hyb rfl rfl rfl rfl rfl ?_
    refine Agg.chMove rfl rfl rfl rfl ?_
    refine Agg.chSkip rfl rfl ?_
    refine Agg.chSkip rfl rfl ?_
    refine Agg.chSkip rfl rfl ?_
    refine Agg.chPick rfl rfl rfl rfl rfl ?_
    refine Agg.chMove rfl rfl rfl rfl ?_
    refine Agg.chSkip rfl rfl ?_
    refine Agg.chSkip rfl rfl ?_
    refine Agg.chSkip rfl rfl ?_
    refine Agg.chEnd ?_
    intro vs w6 hb _
    simp only [List.reverse, List.reverseAux, Agg.fill, List.set_cons_succ, List.set_cons_zero]
    replace HB := Lib.hid (HB.out.trans (hb.mono HB.out.size))
    replace HG := Lib.hid (HG.out.keep hb)
    replace H7 := Lib.hid (H7.out.keep hb)
    replace HU := Lib.hid (HU.out.keep hb)
    replace H10 := Lib.hid (H10.out.keep hb)
    clear hb
    go_wp2_with fail
    go_ret
    exact ⟨rfl, HB.out⟩
end Go.Proofs.Ytlddjcilbpcciaa
end
section
/-
  THE LOG: what LogBack asks (plain).
-/
namespace Go.Proofs.Ytlddjcilbpcciaa
open Go.ChangeShapes Go.WideShapes Go.ChangeAt Go.RowKit Agg Pg Dv Lg

theorem fresh_ask {d : Dev} (h : Fresh d) : askL d = 0 := by unfold askL; rw [h.pow.1, h.pow.2.1]; rfl
theorem at_le {d : Dev} (h : Fresh d) {X : Nat} (hX : SecLe X d.pages) (q : Nat) : pSt (atL d q) ≤ X := by
  rw [at_fresh h.cache]
  refine pSt_sec ?_ (getD_sec hX _)
  by_cases hq : 2 + q < d.pages.length
  · rw [List.getD_eq_getElem?_getD, List.getElem?_eq_getElem hq]
    exact (h.good.pages _ (List.getElem_mem hq)).1
  · rw [List.getD_eq_getElem?_getD, List.getElem?_eq_none (by omega)]; rfl
/-- groups over a device whose stamps are not above -/
theorem fil_back {d : Dev} (gs : List (List UInt8)) {A : Nat} (hF : Fresh d) (hA : SecLe A d.pages) (hb : A ≤ 1152921504606846976) : FilR d 0 A (A + 1) A (filP gs d 0 A (A + 1)) ∧ repA (filP gs d 0 A (A + 1)).1 A = (filP gs d 0 A (A + 1)).2 := by
  have h := fil_facts gs (d := d) (p := 0) (last := A) (st := A + 1) (X := A) hF (by omega) (by omega) (by omega) hA
  refine ⟨h, ?_⟩
  have hs := fil_stop hF h (fun q _ _ => by have := at_le hF hA q; omega) (next_none (by have := at_le hF hA 0; omega))
  unfold repA
  rw [if_pos (fresh_ask h.fresh)]
  exact rep_chain h.chain hs
end Go.Proofs.Ytlddjcilbpcciaa
end
