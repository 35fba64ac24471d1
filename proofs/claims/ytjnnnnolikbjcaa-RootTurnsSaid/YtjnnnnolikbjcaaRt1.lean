/-
  THE LOG: a device in memory of its own; what arguments hold.
-/
import Derived.Test.YtjnnnnolikbjcaaRFdDw3
import Derived.Test.YtjnnnnolikbjcaaRtI
section
namespace Go.Proofs.Ytjnnnnolikbjcaa
open Go.ChangeShapes Go.WideShapes Go.ChangeAt Go.RowKit Agg Pg Dv
attribute [local go_sem] Oper.semAt_some

/-- what each device that is read has -/
structure DevW (d : Dev) : Prop where
  pages : ∀ b ∈ d.pages, BOk b
  cache : ∀ x ∈ d.cache, BOk x.2
  nums : ∀ x ∈ d.cache, (Lit.int .i64 x.1).wf = true
def ownD (d : Dev) : Dev := { d with pages := d.pages.take 300, cache := d.cache.take 300 }
theorem ownD_good {d : Dev} (h : DevW d) : DGood (ownD d) :=
  ⟨fun b hb => h.pages b (List.mem_of_mem_take hb), fun b hb => h.cache b (List.mem_of_mem_take hb), fun b hb => h.nums b (List.mem_of_mem_take hb), by show (d.pages.take 300).length ≤ _; rw [List.length_take]; omega⟩
theorem ownD_len (d : Dev) : (ownD d).cache.length ≤ 300 := by show (d.cache.take 300).length ≤ _; rw [List.length_take]; omega
theorem flat_take {α : Type} (f : α → List Value) (m : Nat) (l : List α) (k : Nat) (h : ∀ x ∈ l, (f x).length = m) : (l.flatMap f).take (k * m) = (l.take k).flatMap f := by
  induction l generalizing k with
  | nil => simp
  | cons x l ih =>
    cases k with
    | zero => simp
    | succ k =>
      have hx := h x (by simp)
      rw [List.flatMap_cons, List.take_succ_cons, List.flatMap_cons, Nat.succ_mul, Nat.add_comm, List.take_append, hx, List.take_of_length_le (by omega), Nat.add_sub_cancel_left, ih k (fun y hy => h y (by simp [hy]))]
set_option maxHeartbeats 4000000 in
set_option maxRecDepth 100000 in
theorem lown_any (d : Dev) (dv : Value) (w : World) (hd : DevW d) (hf1 : -9223372036854775808 ≤ d.fuse) (hf2 : d.fuse ≤ 9223372036854775807) (hD : DevR w dv d) :
    Calls Try.prog 19 #[dv] w fun e w' => ∃ v, e = .returned v ∧ DevO w.heap.size w' v (ownD d) ∧ Below w.heap.size w w' := by
  obtain ⟨px, cx, pc, cc, rfl, hk2, hk3⟩ := hD
  obtain ⟨_, _, e1, hp1, hp2⟩ := hk2.shape
  cases e1
  obtain ⟨_, _, e1, hc1, hc2⟩ := hk3.shape
  cases e1
  unfold maxLen at hp2 hc2
  obtain ⟨np, hnp⟩ : ∃ k, k = min d.pages.length 300 := ⟨_, rfl⟩
  obtain ⟨nc, hnc⟩ : ∃ k, k = min d.cache.length 300 := ⟨_, rfl⟩
  have HP := Lib.hid (SlR.take hk2 np (by omega))
  have HC := Lib.hid (SlR.take hk3 nc (by omega))
  rw [flat_take blkC 132 _ _ (fun b hb => bok_cells (hd.pages b hb))] at HP
  rw [flat_take wrC 133 _ _ (fun x hx => wrC_length x (hd.cache x hx))] at HC
  have HL : Hid ((ownD d).pages = d.pages.take np ∧ (ownD d).cache = d.cache.take nc ∧ (ownD d).pages.length = np ∧ (ownD d).cache.length = nc) := by
    refine Lib.hid ⟨?_, ?_, ?_, ?_⟩
    · show d.pages.take 300 = _
      rw [hnp, Nat.min_comm, ← List.take_take, List.take_length]
    · show d.cache.take 300 = _
      rw [hnc, Nat.min_comm, ← List.take_take, List.take_length]
    · show (d.pages.take 300).length = _
      rw [List.length_take]; omega
    · show (d.cache.take 300).length = _
      rw [List.length_take]; omega
  have H1P : Hid (∀ u ∈ (d.pages.take np).flatMap blkC, u.oneCell' = true) := Lib.hid (pgs_one _)
  have H1C : Hid (∀ u ∈ (d.cache.take nc).flatMap wrC, u.oneCell' = true) := Lib.hid (fun u hu => by
    obtain ⟨x, _, hx⟩ := List.mem_flatMap.1 hu
    exact wrC_one x u hx)
  have hmp : min (d.pages.length : Int) 300 = (np : Int) := by omega
  have hmc : min (d.cache.length : Int) 300 = (nc : Int) := by omega
  have HMP := Lib.hid hmp
  have HMC := Lib.hid hmc
  have hnp3 : np ≤ 300 := by omega
  have hnc3 : nc ≤ 300 := by omega
  have hnpc : np ≤ pc := by omega
  have hncc : nc ≤ cc := by omega
  obtain ⟨fu, hfu⟩ : ∃ f, d.fuse = f := ⟨_, rfl⟩
  obtain ⟨of, hof⟩ : ∃ f, d.off = f := ⟨_, rfl⟩
  have HFO : Hid ((ownD d).fuse = fu ∧ (ownD d).off = of) := Lib.hid ⟨hfu, hof⟩
  rw [hfu, hof]
  rw [hfu] at hf1 hf2
  obtain ⟨O, hO⟩ : ∃ O, ownD d = O := ⟨_, rfl⟩
  rw [hO] at HL HFO
  rw [hO]
  obtain ⟨lp, hlp⟩ : ∃ n, d.pages.length = n := ⟨_, rfl⟩
  obtain ⟨lc, hlc⟩ : ∃ n, d.cache.length = n := ⟨_, rfl⟩
  obtain ⟨P, hP⟩ : ∃ P, d.pages.take np = P := ⟨_, rfl⟩
  obtain ⟨C, hC⟩ : ∃ C, d.cache.take nc = C := ⟨_, rfl⟩
  rw [hlp] at hp1 HMP ⊢
  rw [hlc] at hc1 HMC ⊢
  rw [hP] at HP HL H1P
  rw [hC] at HC HL H1C
  clear hk2 hk3 hd hnp hnc hmp hmc hfu hof hO hlp hlc hP hC
  have HC0 := HC
  have HB := Lib.hid (Below.refl w.heap.size w)
  go_enter Try.func19, Try.ntmps19
  go_upto_region 1 with (fail)
  refine Agg.wp_at fun w1 hw1 => ?_
  have hb : Below w.heap.size w w1 := by rw [hw1.out]; repeat (first | exact Below.refl _ _ | refine Agg.bel_drew ?_ | refine Agg.bel_alloc ?_ _)
  replace HB := Lib.hid (HB.out.trans (hb.mono HB.out.size))
  replace HP := Lib.hid (HP.out.keep hb)
  replace HC := Lib.hid (HC.out.keep hb)
  clear hb
  have H1 : Hid (Blk w1 w.heap.size 30 [.slice px lp pc, .slice cx lc cc, .int .i64 fu, .bool of]) := by show Blk _ _ _ _; rw [hw1.out]; exact (Blk.new w 30 #[.slice px lp pc, .slice cx lc cc, .int .i64 fu, .bool of]).al _
  have H2 : Hid (Blk w1 (w.heap.size + 1) 30 [.slice none 0 0, .slice none 0 0, .int .i64 0, .bool false]) := by show Blk _ _ _ _; rw [hw1.out]; exact Blk.newAt (w.alloc _) 30 #[.slice none 0 0, .slice none 0 0, .int .i64 0, .bool false] _ (by simp)
  have HSW : Hid (w1.heap.size = w.heap.size + 2) := by show _ = _; rw [hw1.out]; simp
  clear hw1
  have hbA : Below w1.heap.size w1 (w1.alloc (.cells #[] 38)) := (Below.refl _ _).alloc (Nat.le_refl _) _
  have hown := World.ownsRow_lit (e := 38) (size := 132) (base := w1.heap.size) w1 #[] 0 (Nat.le_refl _) (by decide) rfl
  have hsl := HP.out.keep hbA
  have hmin := HMP.out
  have hone := H1P.out
  have xH1_0 := H1.out.cell 0
  have xH1_1 := H1.out.cell 1
  have xH1_2 := H1.out.cell 2
  have xH1_3 := H1.out.cell 3
  have lH1 := H1.out.lt
  simp only [List.getElem?_cons_zero, List.getElem?_cons_succ] at xH1_0 xH1_1 xH1_2 xH1_3
  have h1A := H1.out.keep hbA
  have hsu := fun W : World => run_slice_upto tiBl px lp pc np hnpc W
  have HSU := Lib.hid hsu
  clear hsu
  go_upto_region 2 with (first
    | (refine Agg.min2 _ _ _ (np : Int) rfl rfl rfl rfl hmin ?_; simp only [Act.put, List.setIfInBounds_toArray, List.set_cons_succ, List.set_cons_zero])
    | (refine Agg.gSliceUp (.slice px np pc) rfl rfl rfl rfl HSU.out ?_; simp only [Act.put, List.setIfInBounds_toArray, List.set_cons_succ, List.set_cons_zero])
    | (refine Agg.append2 tiBl _ _ rfl rfl w1.heap.size (v := .slice (some ⟨w1.heap.size, 0, none⟩) 0 0) rfl hown rfl hsl hone (by unfold maxLen; omega) (by omega) hbA.size ?_; intro v2 w2 ho2 hg2 _; obtain ⟨v2x, v2c, rfl, _, _⟩ := (ownSl ho2).shape; simp only [Act.put, List.setIfInBounds_toArray, List.set_cons_succ, List.set_cons_zero])
    | (refine Agg.gStoreCell 0 (.slice v2x (0 + np) v2c) (blk_row h1A hg2 (own_apart hown h1A (by decide))) rfl rfl rfl rfl rfl (by kernel_rfl) rfl (by simp) rfl (fun w3 hb3 hg3 => ?_)))
  clear xH1_0 xH1_1 xH1_2 xH1_3 lH1
  have hs0 := HSW.out
  have h23 := (blk_row (H2.out.keep hbA) hg2 (own_apart hown (H2.out.keep hbA) (by decide))).far' hg3 (by omega)
  have ho3 := ho2.kept hg3 (own_off ho2 (by omega))
  have hbw2 := (HB.out.trans (hbA.mono HB.out.size)).trans (grown_below hg2 (Nat.le_trans HB.out.size hbA.size) (fun j e => Nat.le_trans HB.out.size (own_block hown j e)))
  have hbw3 := hbw2.trans (grown_below hg3 hbw2.size (fun j e => by cases e; exact Nat.le_refl _))
  have hC3 := HC0.out.keep hbw3
  simp only [spliced, List.take_zero, List.drop_succ_cons, List.nil_append, List.length_cons, List.length_nil, List.drop_zero, List.cons_append, Nat.zero_add] at hb3 ho3
  have HO3 := Lib.hid (own_base ho3 (show w.heap.size + 2 ≤ w1.heap.size by omega))
  have HBW := Lib.hid hbw3
  have H13 := Lib.hid hb3
  have H23 := Lib.hid h23
  have HC3 := Lib.hid hC3
  have hs2 := hg2.size
  have hs3 := hg3.size
  have hsA := hbA.size
  have hsz3 : w.heap.size + 2 ≤ w3.heap.size := by omega
  clear hs0 h23 ho3 hbw2 hbw3 hC3 hb3 hg2 hg3 ho2 hown hsl hmin hone h1A HSU HP HC H1 H2 HSW HMP H1P hbA HB hs2 hs3 hsA
  have HB := HBW
  clear HBW
  rw [Nat.zero_add]
  have hbA : Below w3.heap.size w3 (w3.alloc (.cells #[] 88)) := (Below.refl _ _).alloc (Nat.le_refl _) _
  have hown := World.ownsRow_lit (e := 88) (size := 133) (base := w3.heap.size) w3 #[] 0 (Nat.le_refl _) (by decide) rfl
  have hsl := HC3.out.keep hbA
  have hmin := HMC.out
  have hone := H1C.out
  have xH13_0 := H13.out.cell 0
  have xH13_1 := H13.out.cell 1
  have xH13_2 := H13.out.cell 2
  have xH13_3 := H13.out.cell 3
  have lH13 := H13.out.lt
  simp only [List.getElem?_cons_zero, List.getElem?_cons_succ] at xH13_0 xH13_1 xH13_2 xH13_3
  have h1A := H13.out.keep hbA
  have hsu := fun W : World => run_slice_upto tiW cx lc cc nc hncc W
  have HSU := Lib.hid hsu
  clear hsu
  go_upto_region 3 with (first
    | (refine Agg.min2 _ _ _ (nc : Int) rfl rfl rfl rfl hmin ?_; simp only [Act.put, List.setIfInBounds_toArray, List.set_cons_succ, List.set_cons_zero])
    | (refine Agg.gSliceUp (.slice cx nc cc) rfl rfl rfl rfl HSU.out ?_; simp only [Act.put, List.setIfInBounds_toArray, List.set_cons_succ, List.set_cons_zero])
    | (refine Agg.append2 tiW _ _ rfl rfl w3.heap.size (v := .slice (some ⟨w3.heap.size, 0, none⟩) 0 0) rfl hown rfl hsl hone (by unfold maxLen; omega) (by omega) hbA.size ?_; intro v4 w4 ho4 hg4 _; obtain ⟨v4x, v4c, rfl, _, _⟩ := (ownSl ho4).shape; simp only [Act.put, List.setIfInBounds_toArray, List.set_cons_succ, List.set_cons_zero])
    | (refine Agg.gStoreCell 1 (.slice v4x (0 + nc) v4c) (blk_row h1A hg4 (own_apart hown h1A (by decide))) rfl rfl rfl rfl rfl (by kernel_rfl) rfl (by simp) rfl (fun w5 hb5 hg5 => ?_)))
  clear xH13_0 xH13_1 xH13_2 xH13_3 lH13
  have h25 := (blk_row (H23.out.keep hbA) hg4 (own_apart hown (H23.out.keep hbA) (by decide))).far' hg5 (by omega)
  have ho5 := ho4.kept hg5 (own_off ho4 (by omega))
  have hp4 := (HO3.out.keep hbA).kept hg4 (own_own (HO3.out.keep hbA) hown (by decide))
  have hp5 := hp4.kept hg5 (own_off hp4 (by omega))
  have hbw4 := (HB.out.trans (hbA.mono HB.out.size)).trans (grown_below hg4 (Nat.le_trans HB.out.size hbA.size) (fun j e => Nat.le_trans HB.out.size (own_block hown j e)))
  have hbw5 := hbw4.trans (grown_below hg5 hbw4.size (fun j e => by cases e; exact Nat.le_refl _))
  simp only [spliced, List.take_zero, List.take_succ_cons, List.drop_succ_cons, List.nil_append, List.length_cons, List.length_nil, List.drop_zero, List.cons_append, Nat.zero_add, Nat.reduceAdd] at hb5 ho5
  have ho6 := own_base ho5 (show w.heap.size + 2 ≤ w3.heap.size by omega)
  have hs5 : w.heap.size + 1 < w5.heap.size := h25.lt
  clear hown hsl hmin hone h1A HSU HMC H1C hbA hg4 hg5 ho4 ho5 hp4 hbw4 HC3 H13 H23 HO3 HB
  go_wp2_with (first
    | (refine Agg.gLoadB 4 hb5 rfl rfl rfl rfl (by decide +kernel) ?_; simp only [Act.put, List.setIfInBounds_toArray, List.set_cons_succ, List.set_cons_zero])
    | (refine Agg.gStoreB 4 [.slice v2x np v2c, .slice v4x nc v4c, .int .i64 fu, .bool of] h25 rfl rfl rfl rfl rfl (by decide +kernel) rfl rfl (by simp [Value.oneCell']) (fun w7 hb7 hg7 => ?_)))
  refine bodyPost_ret (results_row1 (m := 4) rfl hb7 rfl (by decide +kernel) rfl) rfl ⟨_, rfl, ⟨.slice v2x np v2c, .slice v4x nc v4c, by rw [HFO.out.1, HFO.out.2], ?_, ?_⟩, ?_⟩
  · have h := own_base (hp5.kept hg7 (own_off hp5 (by omega))) (show w.heap.size ≤ w.heap.size + 2 by omega)
    rw [HL.out.2.2.1, HL.out.1]; exact h
  · have h := own_base (ho6.kept hg7 (own_off ho6 (by omega))) (show w.heap.size ≤ w.heap.size + 2 by omega)
    rw [HL.out.2.2.2, HL.out.2.1]; exact h
  · exact hbw5.trans (grown_below hg7 hbw5.size (fun j e => by cases e; omega))
end Go.Proofs.Ytjnnnnolikbjcaa
end
section
/-
  FILES: slices.Equal of numbers.
-/
namespace Go.Proofs.Ytjnnnnolikbjcaa
open Go.ChangeShapes Go.WideShapes Go.ChangeAt Go.RowKit Agg Pg Dv
attribute [local go_sem] Oper.semAt_some

theorem int_neq (a b : Int) (_ : True) (_ : True) (r : Bool) (hr : decide (a = b) = r) : (a != b) = !r := by
  subst hr
  by_cases h : a = b <;> simp [h]
def tEn (z : Int) : List Value := [.int .i64 z]
abbrev TmsF (w : World) (v : Value) (l : List Int) : Prop := SlR w v 1 l.length (l.flatMap tEn)
theorem tms_flat (l : List Int) : l.flatMap tEn = iC l := by
  unfold iC
  induction l with
  | nil => rfl
  | cons a l ih => rw [List.flatMap_cons, ih]; rfl
set_option maxHeartbeats 2000000 in
set_option maxRecDepth 100000 in
theorem equalF_any (P Q : List Int) (u v : Value) (w : World) (hu : TmsF w u P) (hv : TmsF w v Q) (hP : ∀ b ∈ P, True) (hQ : ∀ b ∈ Q, True) (r : Bool) (hr : decide (P = Q) = r) :
    Calls Try.prog 48 #[u, v] w fun e w' => e = .returned (.bool r) ∧ Below w.heap.size w w' := by
  obtain ⟨x, cap, rfl, hc1, hc2⟩ := SlR.shape hu
  obtain ⟨y, dap, rfl, hd1, hd2⟩ := SlR.shape hv
  unfold maxLen at hc2 hd2
  have HU := Lib.hid hu
  have HV := Lib.hid hv
  have HP := Lib.hid hP
  have HQ := Lib.hid hQ
  have HR := Lib.hid hr
  have HCP : Hid (∀ b ∈ P, (tEn b).length = 1) := Lib.hid (fun b hb => rfl)
  have HCQ : Hid (∀ b ∈ Q, (tEn b).length = 1) := Lib.hid (fun b hb => rfl)
  clear hu hv hP hQ hr
  have HB := Lib.hid (Below.refl w.heap.size w)
  go_enter Try.func48, Try.ntmps48
  by_cases hlen : P.length = Q.length
  · have HLE := Lib.hid hlen
    rw [← hlen] at HV hd1 ⊢
    clear hlen
    have hne : ((P.length : Int) != P.length) = false := by simp
    go_wp2_with fail
    clear hne
    go_loopw [13] (fun i wr => ∃ k : Nat, k ≤ P.length ∧ i = .int .i64 k ∧ Below w.heap.size w wr ∧ P.take k = Q.take k) (fun i _ => P.length - (intOf i).toNat)
    case atStart => exact ⟨0, by omega, rfl, Below.refl _ _, rfl⟩
    case round =>
      obtain ⟨k, hk, rfl, hb, htk⟩ := hrel
      replace HB := Lib.hid hb
      have HTK := Lib.hid htk
      have HU2 := Lib.hid (HU.out.keep HB.out)
      clear hb htk
      have hv2 : SlR wr (.slice y P.length dap) 1 Q.length (Q.flatMap tEn) := SlR.keep HV.out HB.out
      have HV2 := Lib.hid hv2
      clear hv2
      by_cases hlt : k < P.length
      · have hltq : k < Q.length := by have := HLE.out; omega
        obtain ⟨b, o, cap', hve, _, _, _, _⟩ := SlR.pos HU2.out (by decide) (by omega)
        simp only [Value.slice.injEq, true_and] at hve
        obtain ⟨rfl, rfl⟩ := hve
        obtain ⟨b2, o2, cap2, hve, _, _, _, _⟩ := SlR.pos HV2.out (by decide) (by omega)
        simp only [Value.slice.injEq, true_and] at hve
        obtain ⟨rfl, _, rfl⟩ := hve
        have hcu := Lib.hid (flat_at tEn 1 (by decide) HU2.out HCP.out hlt)
        have hcv := Lib.hid (flat_at tEn 1 (by decide) HV2.out HCQ.out hltq)
        obtain ⟨q, hq⟩ : ∃ q, decide (P[k] = Q[k]) = q := ⟨_, rfl⟩
        have HNQ := Lib.hid (int_neq P[k] Q[k] (HP.out _ (List.getElem_mem hlt)) (HQ.out _ (List.getElem_mem hltq)) q hq)
        have HQ2 := Lib.hid hq
        have HST : Hid (q = true → P.take (k + 1) = Q.take (k + 1)) := by
          refine Lib.hid (fun e => ?_)
          rw [e, decide_eq_true_eq] at hq
          rw [List.take_succ_eq_append_getElem hlt, List.take_succ_eq_append_getElem hltq, HTK.out, hq]
        have HNE : Hid (q = false → P ≠ Q) := by
          refine Lib.hid (fun e he => ?_)
          rw [e, decide_eq_false_iff_not] at hq
          exact hq (by subst he; rfl)
        clear hq
        obtain ⟨A, hA⟩ : ∃ A, P[k] = A := ⟨_, rfl⟩
        obtain ⟨B, hB⟩ : ∃ B, Q[k] = B := ⟨_, rfl⟩
        rw [hA] at hcu
        rw [hB] at hcv
        rw [hA, hB] at HNQ HQ2
        clear hA hB
        go_upto_region 6 with (fail)
        refine Agg.chainR 9 (by kernel_rfl) (by kernel_rfl) ?_
        simp only [List.take_succ_cons, List.take_zero, List.drop_succ_cons, List.drop_zero]
        refine Agg.chMove rfl rfl rfl rfl ?_
        refine Agg.chMove rfl rfl rfl rfl ?_
        refine Agg.chIA tiInt (by omega) (by omega) rfl rfl rfl rfl rfl ?_
        refine Agg.chLoad rfl rfl rfl rfl (by decide +kernel) (hcu.out 0 _ rfl) ?_
        refine Agg.chMove rfl rfl rfl rfl ?_
        refine Agg.chMove rfl rfl rfl rfl ?_
        refine Agg.chIA tiInt (by omega) (by omega) rfl rfl rfl rfl rfl ?_
        refine Agg.chLoad rfl rfl rfl rfl (by decide +kernel) (hcv.out 0 _ rfl) ?_
        refine Agg.chNe (!q) HNQ.out rfl rfl rfl rfl rfl ?_
        refine Agg.chEnd ?_
        intro vs w1 hb _
        refine Agg.wpNil ?_
        simp only [List.reverse, List.reverseAux, Agg.fill, List.set_cons_succ, List.set_cons_zero]
        replace HB := Lib.hid (HB.out.trans (hb.mono HB.out.size))
        clear hb
        cases q
        · obtain rfl : r = false := by rw [← HR.out]; simpa using HNE.out rfl
          rw [show (!false) = true from rfl]
          go_wp2_with fail
          go_ret
          exact ⟨rfl, HB.out⟩
        · rw [show (!true) = false from rfl]
          go_wp2_with fail
          go_roundw
          case rel => exact ⟨k + 1, by omega, by go_num, HB.out, HST.out rfl⟩
          case measure => simp [intOf]; omega
      · obtain rfl : k = P.length := by omega
        obtain rfl : r = true := by
          rw [← HR.out]
          have := HTK.out
          rw [List.take_length, HLE.out, List.take_length] at this
          simpa using this
        go_wp2_with fail
        go_ret
        exact ⟨rfl, HB.out⟩
  · have hne : ((P.length : Int) != Q.length) = true := by simp; omega
    obtain rfl : r = false := by rw [← HR.out]; simp; intro e; exact hlen (by rw [e])
    clear hlen
    go_wp2_with fail
    go_ret
    exact ⟨rfl, HB.out⟩
theorem eqI_any (P Q : List Int) (u v : Value) (w : World) (hu : Ints w u P) (hv : Ints w v Q) (r : Bool) (hr : decide (P = Q) = r) :
    Calls Try.prog 48 #[u, v] w fun e w' => e = .returned (.bool r) ∧ Below w.heap.size w w' :=
  equalF_any P Q u v w (by show SlR _ _ _ _ _; rw [tms_flat]; exact hu) (by show SlR _ _ _ _ _; rw [tms_flat]; exact hv) (fun _ _ => trivial) (fun _ _ => trivial) r hr
end Go.Proofs.Ytjnnnnolikbjcaa
end
section
/-
  ROOTS: as values; Check, Same.
-/
namespace Go.Proofs.Ytjnnnnolikbjcaa
open Go.ChangeShapes Go.WideShapes Go.ChangeAt Go.RowKit Agg Pg Dv
attribute [local go_sem] Oper.semAt_some

/-- a root as a value; its cells -/
def rtC (sl : Value) (r : Rt) : List Value := [.int .i64 r.slot, .int .u64 (r.stamp : Int), sl, .int .i64 r.bytes]
def rtV (sl : Value) (r : Rt) : Value := .agg #[.int .i64 r.slot, .int .u64 (r.stamp : Int), sl, .int .i64 r.bytes]
/-- a root that lies there -/
structure RtR (w : World) (v : Value) (r : Rt) : Prop where
  ex : ∃ sl, v = rtV sl r ∧ Ints w sl r.pages
theorem RtR.keep {w w' : World} {v : Value} {r : Rt} (h : RtR w v r) (hb : Below w.heap.size w w') : RtR w' v r := by
  obtain ⟨sl, h1, h2⟩ := h.ex
  exact ⟨sl, h1, SlR.keep h2 hb⟩
/-- what a root's numbers may be, as they come -/
structure RtW (r : Rt) : Prop where
  s1 : -9223372036854775808 ≤ r.slot
  s2 : r.slot ≤ 9223372036854775807
  st : r.stamp < 18446744073709551616
  b1 : -9223372036854775808 ≤ r.bytes
  b2 : r.bytes ≤ 9223372036854775807
  ps : ∀ x ∈ r.pages, -9223372036854775808 ≤ x ∧ x ≤ 9223372036854775807
  n : r.pages.length ≤ 1000
theorem rt0_w : RtW rt0 := ⟨by decide, by decide, by decide, by decide, by decide, (fun x h => by cases h), by decide⟩
theorem ints_at {w : World} {b o n cap : Nat} {l : List Int} (h : Ints w (.slice (some ⟨b, o, none⟩) n cap) l) {k : Nat} (hk : k < l.length) : w.cell? ⟨b, o + k, none⟩ = some (.int .i64 l[k]) := by
  obtain ⟨b', o', cap', hve, _, _, hcm, _⟩ := SlR.pos h (by decide) (by omega)
  simp only [Value.slice.injEq] at hve
  obtain ⟨hve, _⟩ := hve
  cases hve
  exact hcm k _ (by simp [iC, List.getElem?_eq_getElem hk])
theorem ints_shape {w : World} {v : Value} {l : List Int} (h : Ints w v l) : ∃ x c, v = .slice x l.length c ∧ l.length ≤ c ∧ c ≤ maxLen := SlR.shape h

theorem fo_Rt_0 : Agg.fieldOff Try.prog 26 0 = some 0 := by kernel_rfl
theorem fo_Rt_1 : Agg.fieldOff Try.prog 26 1 = some 1 := by kernel_rfl
theorem fo_Rt_2 : Agg.fieldOff Try.prog 26 2 = some 2 := by kernel_rfl
theorem fo_Rt_3 : Agg.fieldOff Try.prog 26 3 = some 3 := by kernel_rfl
set_option maxHeartbeats 4000000 in
set_option maxRecDepth 100000 in
theorem sameR_any (a b : Rt) (u v : Value) (w : World) (hu : RtR w u a) (hv : RtR w v b) (r : Bool) (hr : decide (a = b) = r) :
    Calls Try.prog 18 #[u, v] w fun e w' => e = .returned (.bool r) ∧ Below w.heap.size w w' := by
  obtain ⟨x, rfl, hx⟩ := hu.ex
  obtain ⟨y, rfl, hy⟩ := hv.ex
  have HE := Lib.hid (fun W h1 h2 => eqI_any a.pages b.pages x y W h1 h2 _ rfl)
  obtain ⟨q, hq⟩ : ∃ q, decide (a.pages = b.pages) = q := ⟨_, rfl⟩
  rw [hq] at HE
  have HQ := Lib.hid hq
  have HX := Lib.hid hx
  have HY := Lib.hid hy
  have HR : Hid (∀ c : Bool, (c = true ↔ (a.slot = b.slot ∧ a.stamp = b.stamp ∧ a.bytes = b.bytes ∧ a.pages = b.pages)) → c = r) := Lib.hid (fun c hc => by
    rw [← hr]
    rw [Bool.eq_iff_iff, hc, decide_eq_true_eq]
    exact rt_ext a b)
  clear hx hy hu hv hq hr
  obtain ⟨s1, st1, ps1, by1⟩ := a
  obtain ⟨s2, st2, ps2, by2⟩ := b
  unfold rtV
  dsimp only at HE HQ HX HY HR ⊢
  have HB := Lib.hid (Below.refl w.heap.size w)
  go_enter Try.func18, Try.ntmps18
  by_cases h1 : s1 = s2
  · subst h1
    have e1 : (s1 == s1) = true := by simp
    by_cases h2 : st1 = st2
    · subst h2
      have e2 : ((st1 : Int) == (st1 : Int)) = true := by simp
      by_cases h3 : by1 = by2
      · subst h3
        have e3 : (by1 == by1) = true := by simp
        go_wp2_with fail
        clear e1 e2 e3
        refine Agg.calls_at fun w1 hw1 => ?_
        have hb : Below w.heap.size w w1 := by rw [hw1.out]; repeat (first | exact Below.refl _ _ | refine Agg.bel_drew ?_ | refine Agg.bel_alloc ?_ _)
        replace HB := Lib.hid (HB.out.trans (hb.mono HB.out.size))
        replace HX := Lib.hid (HX.out.keep hb)
        replace HY := Lib.hid (HY.out.keep hb)
        clear hb
        clear hw1
        refine (HE.out w1 HX.out HY.out).mono ?_
        rintro e w2 ⟨rfl, hb⟩
        replace HB := Lib.hid (HB.out.trans (hb.mono HB.out.size))
        replace HX := Lib.hid (HX.out.keep hb)
        replace HY := Lib.hid (HY.out.keep hb)
        clear hb
        obtain rfl := HR.out q (by rw [← HQ.out]; simp)
        go_wp2_with fail
        go_ret
        exact ⟨rfl, HB.out⟩
      · have e3 : (by1 == by2) = false := by simpa using h3
        obtain rfl := HR.out false (by simp [h3])
        clear h3
        go_wp2_with fail
        go_ret
        exact ⟨rfl, bel_alloc (bel_alloc HB.out _) _⟩
    · have e2 : ((st1 : Int) == (st2 : Int)) = false := by simpa using (fun h => h2 (by omega))
      obtain rfl := HR.out false (by simp [h2])
      clear h2
      go_wp2_with fail
      go_ret
      exact ⟨rfl, bel_alloc (bel_alloc HB.out _) _⟩
  · have e1 : (s1 == s2) = false := by simpa using h1
    obtain rfl := HR.out false (by simp [h1])
    clear h1
    go_wp2_with fail
    go_ret
    exact ⟨rfl, bel_alloc (bel_alloc HB.out _) _⟩
end Go.Proofs.Ytjnnnnolikbjcaa
end
