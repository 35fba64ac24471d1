/-
  THE DOCUMENT's SPANS (layer 4): Middle.
-/
import Derived.Test.YtchpkgneloiidaaPmWC
import Derived.Test.YtchpkgneloiidaaChain3
import Derived.Test.YtchpkgneloiidaaPmW2
section
namespace Agg
open Go Go.ChangeShapes Go.WideShapes Go.ChangeAt Go.RowKit
section
variable {n kk : Nat} {P : Program} {l rest : List Oper} {W : World} {l0 : List Value} {ds : List Deferred} {acc : List R} {o : Oper} {fin : List R → Prop}
/-- a move of something of which something is known -/
theorem chMoveO {t : Nat} (j : Nat) {g : Value → World → Prop} (hst : Stable g) (ho : o.op = .move (.tmp t)) (hd : depL o j = true) (hj : look kk acc j = some (.op g)) (ht : (l[j]?).map (·.dst) = some (some t)) (hw : wants kk acc o = some true) (hk : gOk l o = true)
    (h : ChainR n P l.toArray W ⟨l0.toArray, ds⟩ (kk + 1) ((.op g) :: acc) rest fin) : ChainR n P l.toArray W ⟨l0.toArray, ds⟩ kk acc (o :: rest) fin :=
  chPureG (by rw [ho]; rfl) hw hk hst (fun a w hh => by
    obtain ⟨v, hv, hg⟩ := hh.op j t hd hj ht
    exact ⟨v, hg, fun w' => by simp only [execOp, ho, hv, Sem.run_pure]⟩) h
/-- a part of something of which something is known -/
theorem chExtractO {t i : Nat} (j : Nat) {g g' : Value → World → Prop} (hst : Stable g') (hx : ∀ v w, g v w → ∃ vs u, v = .tuple vs ∧ vs[i]? = some u ∧ g' u w) (ho : o.op = .extract (.tmp t) i) (hd : depL o j = true) (hj : look kk acc j = some (.op g)) (ht : (l[j]?).map (·.dst) = some (some t)) (hw : wants kk acc o = some true) (hk : gOk l o = true)
    (h : ChainR n P l.toArray W ⟨l0.toArray, ds⟩ (kk + 1) ((.op g') :: acc) rest fin) : ChainR n P l.toArray W ⟨l0.toArray, ds⟩ kk acc (o :: rest) fin :=
  chPureG (by rw [ho]; rfl) hw hk hst (fun a w hh => by
    obtain ⟨v, hv, hg⟩ := hh.op j t hd hj ht
    obtain ⟨vs, u, rfl, hu, hg'⟩ := hx v w hg
    exact ⟨u, hg', fun w' => by simp [execOp, ho, hv, Instr.extract, hu]⟩) h
end
end Agg
namespace Go.Proofs.Ytchpkgneloiidaa
open Go.ChangeShapes Go.WideShapes Go.ChangeAt Go.RowKit Agg Wd

/-- two numbers, as a call hands them back -/
def NumP (a b : Int) (v : Value) (w : World) : Prop := ∃ z y, v = .tuple #[z, y] ∧ NumV a z w ∧ NumV b y w
theorem NumP.stable (a b : Int) : Stable (NumP a b) := fun _ _ _ ⟨z, y, h1, h2, h3⟩ hb => ⟨z, y, h1, NumV.stable _ _ _ _ h2 hb, NumV.stable _ _ _ _ h3 hb⟩
theorem mid_fits {a b : Int} (ha1 : -9223372036854775808 ≤ a) (ha2 : a ≤ 9223372036854775807) (hb1 : -9223372036854775808 ≤ b) (hb2 : b ≤ 9223372036854775807) : fits64 ((a + b) / 2) = true := by
  unfold fits64
  rw [decide_eq_true_eq]; omega
set_option maxHeartbeats 4000000 in
set_option maxRecDepth 100000 in
theorem rMiddle_any (a b : Int) (ha1 : -9223372036854775808 ≤ a) (ha2 : a ≤ 9223372036854775807) (hb1 : -9223372036854775808 ≤ b) (hb2 : b ≤ 9223372036854775807) (w : World) :
    Calls Try.prog 33 #[.agg #[.int .i64 a, .int .i64 b]] w fun e w' => e = .returned (.int .i64 ((a + b) / 2)) ∧ Below w.heap.size w w' := by
  have HIA := Lib.hid (fun W => Int_any a ha1 ha2 W)
  have HIB := Lib.hid (fun W => Int_any b hb1 hb2 W)
  have HLA := Lib.hid (i64_len ha1 ha2)
  have HLB := Lib.hid (i64_len hb1 hb2)
  have HLS := Lib.hid (abs_add_len (i64_len ha1 ha2) (i64_len hb1 hb2))
  have HFT := Lib.hid (mid_fits ha1 ha2 hb1 hb2)
  have HLM : Hid ((digs ((a + b) / 2).natAbs).length ≤ 500) := Lib.hid (by have := i64_len (z := (a + b) / 2) (by omega) (by omega); omega)
  clear ha1 ha2 hb1 hb2
  obtain ⟨M, hM⟩ : ∃ M, (a + b) / 2 = M := ⟨_, rfl⟩
  obtain ⟨N, hN⟩ : ∃ N, (a + b) % 2 = N := ⟨_, rfl⟩
  have HDV : Hid (∀ u v W, NumV (a + b) u W → NumV 2 v W → Calls Try.prog 44 #[u, v] W fun e w' => ∃ r, e = .returned r ∧ NumP M N r w' ∧ Below W.heap.size W w') := by
    refine Lib.hid (fun u v W h1 h2 => (Div_any (a + b) 2 (by decide) (by have := HLS.out; omega) (Nat.le_trans (digs_len (k := 2) (by decide)) (by decide)) u v W h1 h2).mono ?_)
    rintro e w' ⟨z, y, h1, h2, h3, h4⟩
    rw [show ((2 : Nat) : Int) = 2 from rfl, hM] at h2
    rw [show ((2 : Nat) : Int) = 2 from rfl, hN] at h3
    exact ⟨_, h1, ⟨z, y, rfl, h2, h3⟩, h4⟩
  rw [hM] at HFT HLM ⊢
  clear hM hN
  have HB := Lib.hid (Below.refl w.heap.size w)
  go_enter Try.func33, Try.ntmps33
  go_upto_region 1 with (fail)
  refine Agg.wp_at fun w1 hw1 => ?_
  have hb : Below w.heap.size w w1 := by rw [hw1.out]; repeat (first | exact Below.refl _ _ | refine Agg.bel_drew ?_ | refine Agg.bel_alloc ?_ _)
  replace HB := Lib.hid (HB.out.trans (hb.mono HB.out.size))
  clear hb
  have H1 : Hid (Blk w1 w.heap.size 26 [.int .i64 a, .int .i64 b]) := by show Blk _ _ _ _; rw [hw1.out]; exact Blk.new w 26 #[.int .i64 a, .int .i64 b]
  clear hw1
  refine Agg.chainRD 14 (by kernel_rfl) (by kernel_rfl) ?_
  simp only [List.take_succ_cons, List.take_zero, List.drop_succ_cons, List.drop_zero]
  refine Agg.chFA (by first | exact fo_Num_0 | exact fo_Span_0) rfl rfl rfl rfl ?_
  refine Agg.chLoadB H1.out (by decide +kernel) rfl rfl (by rfl) rfl rfl ?_
  refine Agg.chCallG Try.func46 rfl (by kernel_rfl) (NumV a) (NumV.stable _) rfl rfl rfl rfl (fun W hb => HIA.out W) ?_
  refine Agg.chFA (by first | exact fo_Num_1 | exact fo_Span_1) rfl rfl rfl rfl ?_
  refine Agg.chLoadB H1.out (by decide +kernel) rfl rfl (by rfl) rfl rfl ?_
  refine Agg.chCallG Try.func46 rfl (by kernel_rfl) (NumV b) (NumV.stable _) rfl rfl rfl rfl (fun W hb => HIB.out W) ?_
  refine Agg.chCall_oo Try.func45 rfl (by kernel_rfl) (.op (NumV (a + b))) (NumV.stable _) 2 5 rfl rfl rfl rfl rfl rfl rfl rfl rfl (fun u u2 W hb hg hg2 => Add_any a b (by have := HLA.out; omega) (by have := HLB.out; omega) u u2 W hg hg2) ?_
  refine Agg.chCallG Try.func46 rfl (by kernel_rfl) (NumV 2) (NumV.stable _) rfl rfl rfl rfl (fun W hb => Int_any 2 (by decide) (by decide) W) ?_
  refine Agg.chCall_oo Try.func44 rfl (by kernel_rfl) (.op (NumP M N)) (NumP.stable _ _) 6 7 rfl rfl rfl rfl rfl rfl rfl rfl rfl (fun u u2 W hb hg hg2 => HDV.out u u2 W hg hg2) ?_
  refine Agg.chMoveO 8 (NumP.stable _ _) rfl rfl rfl rfl rfl rfl ?_
  refine Agg.chExtractO 9 (NumV.stable M) (fun v w ⟨z, y, h1, h2, h3⟩ => ⟨_, z, h1, rfl, h2⟩) rfl rfl rfl rfl rfl rfl ?_
  refine Agg.chExtractO 9 (NumV.stable N) (fun v w ⟨z, y, h1, h2, h3⟩ => ⟨_, y, h1, rfl, h3⟩) rfl rfl rfl rfl rfl rfl ?_
  refine Agg.chAlloc #[.bool false, .slice none 0 0] rfl (by kernel_rfl) rfl rfl ?_
  refine Agg.chAlloc #[.bool false, .slice none 0 0] rfl (by kernel_rfl) rfl rfl ?_
  refine Agg.chEnd ?_
  intro vs w2 hb hf hap
  simp only [List.reverse, List.reverseAux, Agg.Facts] at hf
  obtain ⟨_, _, _, _, _, _, ⟨t1, hv1, hn1⟩, ⟨t2, hv2, hn2⟩, ⟨b3, hp3, hs3, hk3⟩, ⟨b4, hp4, hs4, hk4⟩, _⟩ := hf
  simp only [List.reverse, List.reverseAux, Agg.fill, List.set_cons_succ, List.set_cons_zero, hv1, hv2, hp3, hp4]
  have h34 : b3 ≠ b4 := by
    have := hap 12 13 _ _ (by decide) rfl rfl rfl rfl rfl rfl
    rw [hp3, hp4] at this
    intro e
    exact this (by rw [e])
  clear hap hv1 hv2 hp3 hp4
  have hsz := HB.out.size
  replace HB := Lib.hid (HB.out.trans (hb.mono hsz))
  clear hb H1
  obtain ⟨y1, e1, rfl, _, _⟩ := SlR.shape hn1
  obtain ⟨y2, e2, rfl, _, _⟩ := SlR.shape hn2
  obtain ⟨q1, hq1⟩ : ∃ f, decide (M < 0) = f := ⟨_, rfl⟩
  obtain ⟨q2, hq2⟩ : ∃ f, decide (N < 0) = f := ⟨_, rfl⟩
  rw [hq1, hq2]
  have HQ1 := Lib.hid hq1
  clear hq1 hq2
  obtain ⟨l1, hl1⟩ : ∃ n, (digs M.natAbs).length = n := ⟨_, rfl⟩
  obtain ⟨l2, hl2⟩ : ∃ n, (digs N.natAbs).length = n := ⟨_, rfl⟩
  rw [hl1] at hn1 ⊢
  rw [hl2] at hn2 ⊢
  clear hl1 hl2
  have hnil : ∀ (xx : Option Addr) (a c : Nat) (z : Int), (Value.slice xx a c) ≠ .int .i64 z := by intro _ _ _ z hz; cases hz
  refine Agg.tStore 2 hk3 rfl rfl rfl rfl rfl (by decide +kernel) rfl rfl (by simp [Value.oneCell']) (fun w30 hb30 hg30 => ?_)
  have hn1' : NB _ _ _ := NB.far hn1 hk3 (hnil _ _ _) hg30
  have hk4' := hk4.far' hg30 (Ne.symm h34)
  have HB2 := HB.out.trans (grown_below hg30 HB.out.size (fun j hj => (by cases hj; omega)))
  refine Agg.tStore 2 hk4' rfl rfl rfl rfl rfl (by decide +kernel) rfl rfl (by simp [Value.oneCell']) (fun w31 hb31 hg31 => ?_)
  have hn1'' : NB _ _ _ := NB.far hn1' hk4' (hnil _ _ _) hg31
  have hb30' := hb30.far' hg31 h34
  have HB3 := HB2.trans (grown_below hg31 HB2.size (fun j hj => (by cases hj; omega)))
  refine Agg.wpNil ?_
  replace HB := Lib.hid HB3
  have H3 := Lib.hid hb30'
  have HN := Lib.hid hn1''
  clear HB3 HB2 hb30' hb30 hb31 hn1'' hn1' hn1 hn2 hk3 hk4 hk4' hg30 hg31 hnil hsz hs3 hs4 h34
  have xH3_0 := H3.out.cell 0
  have xH3_1 := H3.out.cell 1
  have lH3 := H3.out.lt
  simp only [List.getElem?_cons_zero, List.getElem?_cons_succ] at xH3_0 xH3_1
  go_wp2_with fail
  clear xH3_0 xH3_1 lH3
  have hva := Value_any M HLM.out (.agg #[.bool q1, .slice y1 l1 e1]) w31 ⟨_, by rw [HQ1.out], HN.out⟩
  rw [HFT.out] at hva
  refine hva.mono ?_
  rintro e w50 ⟨rfl, hb⟩
  have hb := hb
  replace HB := Lib.hid (HB.out.trans (hb.mono HB.out.size))
  replace H3 := Lib.hid (H3.out.keep hb)
  replace HN := Lib.hid (HN.out.keep hb)
  clear hb
  rw [show (if true = true then M else (0 : Int)) = M from rfl]
  clear hva
  go_wp2_with fail
  go_ret
  exact ⟨rfl, HB.out⟩
end Go.Proofs.Ytchpkgneloiidaa
end
section
/-
  THE WALK OF LAYER 8's STATEMENT PmcFits.
-/
namespace Go.Proofs.Ytchpkgneloiidaa
open Go.ChangeShapes Go.WideShapes Go.ChangeAt Go.RowKit Agg Pg Pm
attribute [local go_sem] Oper.semAt_some

set_option maxHeartbeats 4000000 in
set_option maxRecDepth 100000 in
theorem rfit_any (l : List Bd) (v : Value) (w : World) (hl : Bds w v l) (a b : Int) (hr : docCom l = ((a, b), true)) (ha : I64 a) (hb : I64 b) :
    Calls Try.prog 18 #[v] w fun e w' => e = .returned (.tuple #[.int .i64 ((a + b) / 2), .bool true]) ∧ Below w.heap.size w w' := by
  obtain ⟨x, cap, rfl, _⟩ := SlR.shape hl
  have HL := Lib.hid hl
  have HR := Lib.hid hr
  have HM := Lib.hid fun W => rMiddle_any a b ha.1 ha.2 hb.1 hb.2 W
  clear hl hr ha hb
  obtain ⟨z, hz⟩ : ∃ z, (a + b) / 2 = z := ⟨_, rfl⟩
  rw [hz] at HM ⊢
  clear hz
  have HB := Lib.hid (Below.refl w.heap.size w)
  go_enter Try.func18, Try.ntmps18
  go_wp2_with fail
  refine (rcom_any l _ w HL.out ((a, b), true) HR.out).mono ?_
  rintro e w1 ⟨rfl, hb⟩
  replace HB := Lib.hid (HB.out.trans (hb.mono HB.out.size))
  replace HL := Lib.hid (HL.out.keep hb)
  clear hb
  go_upto_region 2 with (first
    | (refine Agg.allocRow 26 #[.int .i64 0, .int .i64 0] rfl rfl (by kernel_rfl) ?_; simp only [Act.put, List.setIfInBounds_toArray, List.set_cons_succ, List.set_cons_zero])
    | (refine Agg.gStoreNew 2 [.int .i64 a, .int .i64 b] rfl rfl rfl rfl rfl rfl (by decide +kernel) rfl rfl rfl ?_; simp only [Act.put]))
  refine Agg.wp_at fun w2 hw2 => ?_
  have hb : Below w1.heap.size w1 w2 := by rw [hw2.out]; repeat (first | exact Below.refl _ _ | refine Agg.bel_drew ?_ | refine Agg.bel_alloc ?_ _)
  replace HB := Lib.hid (HB.out.trans (hb.mono HB.out.size))
  replace HL := Lib.hid (HL.out.keep hb)
  clear hb
  have HX : Hid (Blk w2 w1.heap.size 26 [.int .i64 a, .int .i64 b]) := by show Blk _ _ _ _; rw [hw2.out]; exact Blk.new w1 26 #[.int .i64 a, .int .i64 b]
  clear hw2
  generalize w1.heap.size = gx at *
  have hx := HX.out
  go_wp2_with (refine Agg.gLoadB 2 hx rfl rfl rfl rfl (by decide +kernel) ?_; simp only [Act.put, List.setIfInBounds_toArray, List.set_cons_succ, List.set_cons_zero]; clear hx)
  refine (HM.out w2).mono ?_
  rintro e w3 ⟨rfl, hb⟩
  replace HB := Lib.hid (HB.out.trans (hb.mono HB.out.size))
  replace HX := Lib.hid (HX.out.keep hb)
  clear hb
  go_wp2_with fail
  go_ret2
  exact ⟨rfl, HB.out⟩
set_option maxHeartbeats 4000000 in
set_option maxRecDepth 100000 in
theorem fits_walk (l : List Bd) (v : Value) (w : World) (hl : Bds w v l) (hrw : ∀ r ∈ l, Rw r) :
    Calls Try.prog 3 #[v] w fun e w' => e = .returned (.bool true) ∧ Below w.heap.size w w' := by
  obtain ⟨x, cap, rfl, _⟩ := SlR.shape hl
  have HL := Lib.hid hl
  have HRW0 := Lib.hid hrw
  clear hl hrw
  have HB := Lib.hid (Below.refl w.heap.size w)
  go_enter Try.func3, Try.ntmps3
  go_wp2_with fail
  refine (wakes_any w).mono ?_
  rintro e w1 ⟨rfl, hb⟩
  replace HB := Lib.hid (HB.out.trans (hb.mono HB.out.size))
  replace HL := Lib.hid (HL.out.keep hb)
  clear hb
  go_wp2_with fail
  refine (few_any l _ w1 HL.out).mono ?_
  rintro e w2 ⟨u, rfl, hu, hb⟩
  replace HB := Lib.hid (HB.out.trans (hb.mono HB.out.size))
  replace HL := Lib.hid (HL.out.keep hb)
  clear hb
  have HU : Hid (Bds w2 u (few257 l)) := Lib.hid (own_bds hu)
  have hfl := few_le l
  have HRW : Hid (∀ r ∈ few257 l, Rw r) := Lib.hid fun r hr => HRW0.out r (List.mem_of_mem_take hr)
  have HFE : Hid (∀ (w : World), Bds w (.slice x l.length cap) l → Calls Try.prog 11 #[.slice x l.length cap] w fun e w' => ∃ u, e = .returned u ∧ w'.ownsRow w.heap.size 36 3 u (few257 l).length ((few257 l).flatMap bdC) ∧ Below w.heap.size w w') := Lib.hid fun w h => few_any l _ w h
  clear hu HRW0
  generalize few257 l = L at *
  obtain ⟨ux, uc, rfl, huc, _⟩ := SlR.shape HU.out
  obtain ⟨⟨⟨c1, c2⟩, ce⟩, hc⟩ : ∃ r, commonP L = r := ⟨_, rfl⟩
  have HCP := Lib.hid hc
  obtain ⟨⟨fz, fe⟩, hf⟩ : ∃ r, fitP L = r := ⟨_, rfl⟩
  have HFP := Lib.hid hf
  obtain ⟨q, hq⟩ : ∃ q, checkB L = q := ⟨_, rfl⟩
  have HQ := Lib.hid hq
  clear hc hf hq
  go_wp2_with fail
  refine (common_any L _ w2 HU.out (c1, c2) ce HCP.out).mono ?_
  rintro e w3 ⟨rfl, hb⟩
  replace HB := Lib.hid (HB.out.trans (hb.mono HB.out.size))
  replace HL := Lib.hid (HL.out.keep hb)
  replace HU := Lib.hid (HU.out.keep hb)
  clear hb
  go_upto_region 5 with (first
    | (refine Agg.allocRow 26 #[.int .i64 0, .int .i64 0] rfl rfl (by kernel_rfl) ?_; simp only [Act.put, List.setIfInBounds_toArray, List.set_cons_succ, List.set_cons_zero])
    | (refine Agg.gStoreNew 2 [.int .i64 c1, .int .i64 c2] rfl rfl rfl rfl rfl rfl (by decide +kernel) rfl rfl rfl ?_; simp only [Act.put]))
  refine Agg.wp_at fun w4 hw4 => ?_
  have hb : Below w3.heap.size w3 w4 := by rw [hw4.out]; repeat (first | exact Below.refl _ _ | refine Agg.bel_drew ?_ | refine Agg.bel_alloc ?_ _)
  replace HB := Lib.hid (HB.out.trans (hb.mono HB.out.size))
  replace HL := Lib.hid (HL.out.keep hb)
  replace HU := Lib.hid (HU.out.keep hb)
  clear hb
  have HX : Hid (Blk w4 w3.heap.size 26 [.int .i64 c1, .int .i64 c2]) := by show Blk _ _ _ _; rw [hw4.out]; exact Blk.new w3 26 #[.int .i64 c1, .int .i64 c2]
  clear hw4
  generalize w3.heap.size = gx at *
  go_wp2_with fail
  refine (fit_any L _ w4 HU.out (com_ok _) fz fe HFP.out).mono ?_
  rintro e w5 ⟨rfl, hb⟩
  replace HB := Lib.hid (HB.out.trans (hb.mono HB.out.size))
  replace HL := Lib.hid (HL.out.keep hb)
  replace HU := Lib.hid (HU.out.keep hb)
  replace HX := Lib.hid (HX.out.keep hb)
  clear hb
  go_wp2_with fail
  refine (right_any L _ w5 HU.out q HQ.out).mono ?_
  rintro e w6 ⟨rfl, hb⟩
  replace HB := Lib.hid (HB.out.trans (hb.mono HB.out.size))
  replace HL := Lib.hid (HL.out.keep hb)
  replace HU := Lib.hid (HU.out.keep hb)
  replace HX := Lib.hid (HX.out.keep hb)
  clear hb
  have h00 : I64 0 ∧ I64 0 := by unfold I64; decide
  have H00 := Lib.hid h00
  clear h00
  cases q
  · have hc := com_bad HQ.out
    rw [HCP.out] at hc
    simp only [Prod.mk.injEq] at hc
    obtain ⟨⟨rfl, rfl⟩, rfl⟩ := hc
    have hf := fit_no HCP.out (by decide)
    rw [HFP.out] at hf
    simp only [Prod.mk.injEq] at hf
    obtain ⟨rfl, rfl⟩ := hf
    go_upto_region 7 with (fail)
    refine Agg.listR 21 (by kernel_rfl) ?_
    simp only [List.take_succ_cons, List.take_zero, List.drop_succ_cons, List.drop_zero]
    refine Agg.chMove rfl rfl rfl rfl ?_
    refine Agg.chCall Try.func15 rfl (by kernel_rfl) rfl rfl rfl rfl (fun W hb => chkB_any L _ W (SlR.keep HU.out hb) false HQ.out) ?_
    refine Agg.chEq true (by decide) rfl rfl rfl rfl rfl ?_
    refine Agg.chMove rfl rfl rfl rfl ?_
    refine Agg.chMove rfl rfl rfl rfl ?_
    refine Agg.chEq true (by decide) rfl rfl rfl rfl rfl ?_
    refine Agg.chPick rfl rfl rfl rfl rfl ?_
    refine Agg.chMove rfl rfl rfl rfl ?_
    refine Agg.chRowB 2 HX.out rfl (by decide +kernel) rfl rfl rfl rfl ?_
    refine Agg.chBuild (v := .agg #[.int .i64 0, .int .i64 0]) rfl rfl rfl rfl (fun W => by kernel_rfl) ?_
    refine Agg.chBin (v := .bool true) rfl rfl rfl rfl rfl (fun w => flatSp.gd .eql _ _ _ _ w) (fun w => sp_eql 0 0 0 0 H00.out H00.out true (by decide) w) ?_
    refine Agg.chPick rfl rfl rfl rfl rfl ?_
    refine Agg.chMove rfl rfl rfl rfl ?_
    refine Agg.chMove rfl rfl rfl rfl ?_
    refine Agg.chEq true (by decide) rfl rfl rfl rfl rfl ?_
    refine Agg.chPick rfl rfl rfl rfl rfl ?_
    refine Agg.chMove rfl rfl rfl rfl ?_
    refine Agg.chMove rfl rfl rfl rfl ?_
    refine Agg.chEq true (by decide) rfl rfl rfl rfl rfl ?_
    refine Agg.chPick rfl rfl rfl rfl rfl ?_
    refine Agg.chAssign rfl rfl rfl rfl ?_
    refine Agg.chEnd ?_
    intro vs w7 hb _
    show Exit.then _ _ Exit.normal _ _
    simp only [List.reverse, List.reverseAux, Agg.fill, List.set_cons_succ, List.set_cons_zero]
    replace HB := Lib.hid (HB.out.trans (hb.mono HB.out.size))
    replace HL := Lib.hid (HL.out.keep hb)
    replace HU := Lib.hid (HU.out.keep hb)
    replace HX := Lib.hid (HX.out.keep hb)
    clear hb
    go_wp2_with fail
    go_ret
    exact ⟨rfl, HB.out⟩
  · have hck := check_len HQ.out
    have hL1 := hck.1
    have HOK := Lib.hid hck.2.2.2
    have hne : L ≠ [] := fun e => by subst e; simp at hL1
    clear hck
    have HNE := Lib.hid hne
    clear hne
    go_wp2_with fail
    refine (chkB_any L _ w6 HU.out true HQ.out).mono ?_
    rintro e w8 ⟨rfl, hb⟩
    replace HB := Lib.hid (HB.out.trans (hb.mono HB.out.size))
    replace HL := Lib.hid (HL.out.keep hb)
    replace HU := Lib.hid (HU.out.keep hb)
    replace HX := Lib.hid (HX.out.keep hb)
    clear hb
    go_wp2_with fail
    refine (HFE.out w8 HL.out).mono ?_
    rintro e w9 ⟨u2, rfl, hu2, hb⟩
    replace HB := Lib.hid (HB.out.trans (hb.mono HB.out.size))
    replace HL := Lib.hid (HL.out.keep hb)
    replace HU := Lib.hid (HU.out.keep hb)
    replace HX := Lib.hid (HX.out.keep hb)
    clear hb
    have HU2 : Hid (Bds w9 u2 L) := Lib.hid (own_bds hu2)
    clear hu2
    obtain ⟨vx, vc, rfl, _, _⟩ := SlR.shape HU2.out
    go_wp2_with fail
    refine (equalBd_any L L _ _ w9 HU.out HU2.out HRW.out HRW.out true (by simp)).mono ?_
    rintro e w10 ⟨rfl, hb⟩
    replace HB := Lib.hid (HB.out.trans (hb.mono HB.out.size))
    replace HU := Lib.hid (HU.out.keep hb)
    replace HX := Lib.hid (HX.out.keep hb)
    replace HU2 := Lib.hid (HU2.out.keep hb)
    clear hb
    clear HU2
    obtain ⟨⟨⟨d1, d2⟩, d3⟩, hd⟩ : ∃ r, docCom L = r := ⟨_, rfl⟩
    have HD := Lib.hid hd
    clear hd
    go_wp2_with fail
    refine (rcom_any L _ w10 HU.out ((d1, d2), d3) HD.out).mono ?_
    rintro e w11 ⟨rfl, hb⟩
    replace HB := Lib.hid (HB.out.trans (hb.mono HB.out.size))
    replace HU := Lib.hid (HU.out.keep hb)
    replace HX := Lib.hid (HX.out.keep hb)
    clear hb
    go_upto_region 11 with (first
      | (refine Agg.allocRow 26 #[.int .i64 0, .int .i64 0] rfl rfl (by kernel_rfl) ?_; simp only [Act.put, List.setIfInBounds_toArray, List.set_cons_succ, List.set_cons_zero])
      | (refine Agg.gStoreNew 2 [.int .i64 d1, .int .i64 d2] rfl rfl rfl rfl rfl rfl (by decide +kernel) rfl rfl rfl ?_; simp only [Act.put]))
    refine Agg.wp_at fun w12 hw12 => ?_
    have hb : Below w11.heap.size w11 w12 := by rw [hw12.out]; repeat (first | exact Below.refl _ _ | refine Agg.bel_drew ?_ | refine Agg.bel_alloc ?_ _)
    replace HB := Lib.hid (HB.out.trans (hb.mono HB.out.size))
    replace HU := Lib.hid (HU.out.keep hb)
    replace HX := Lib.hid (HX.out.keep hb)
    clear hb
    have HZ : Hid (Blk w12 w11.heap.size 26 [.int .i64 d1, .int .i64 d2]) := by show Blk _ _ _ _; rw [hw12.out]; exact Blk.new w11 26 #[.int .i64 d1, .int .i64 d2]
    clear hw12
    generalize w11.heap.size = gz at *
    have hdo := docCom_ok HNE.out HOK.out
    rw [HD.out] at hdo
    simp only at hdo
    cases d3
    · have hno : ∀ v, ¬ Thr L v := fun v hv => by have := hdo.2 ⟨v, hv⟩; cases this
      have hc := com_no HQ.out hno
      rw [HCP.out] at hc
      simp only [Prod.mk.injEq] at hc
      obtain ⟨⟨rfl, rfl⟩, rfl⟩ := hc
      have hf := fit_no HCP.out (by decide)
      rw [HFP.out] at hf
      simp only [Prod.mk.injEq] at hf
      obtain ⟨rfl, rfl⟩ := hf
      clear hdo hno
      go_upto_region 12 with (fail)
      refine Agg.listR 16 (by kernel_rfl) ?_
      simp only [List.take_succ_cons, List.take_zero, List.drop_succ_cons, List.drop_zero]
      refine Agg.chMove rfl rfl rfl rfl ?_
      refine Agg.chEq true (by decide) rfl rfl rfl rfl rfl ?_
      refine Agg.chMove rfl rfl rfl rfl ?_
      refine Agg.chRowB 2 HX.out rfl (by decide +kernel) rfl rfl rfl rfl ?_
      refine Agg.chBuild (v := .agg #[.int .i64 0, .int .i64 0]) rfl rfl rfl rfl (fun W => by kernel_rfl) ?_
      refine Agg.chBin (v := .bool true) rfl rfl rfl rfl rfl (fun w => flatSp.gd .eql _ _ _ _ w) (fun w => sp_eql 0 0 0 0 H00.out H00.out true (by decide) w) ?_
      refine Agg.chPick rfl rfl rfl rfl rfl ?_
      refine Agg.chMove rfl rfl rfl rfl ?_
      refine Agg.chMove rfl rfl rfl rfl ?_
      refine Agg.chEq true (by decide) rfl rfl rfl rfl rfl ?_
      refine Agg.chPick rfl rfl rfl rfl rfl ?_
      refine Agg.chMove rfl rfl rfl rfl ?_
      refine Agg.chMove rfl rfl rfl rfl ?_
      refine Agg.chEq true (by decide) rfl rfl rfl rfl rfl ?_
      refine Agg.chPick rfl rfl rfl rfl rfl ?_
      refine Agg.chAssign rfl rfl rfl rfl ?_
      refine Agg.chEnd ?_
      intro vs w13 hb _
      show Exit.then _ _ Exit.normal _ _
      simp only [List.reverse, List.reverseAux, Agg.fill, List.set_cons_succ, List.set_cons_zero]
      replace HB := Lib.hid (HB.out.trans (hb.mono HB.out.size))
      replace HU := Lib.hid (HU.out.keep hb)
      replace HX := Lib.hid (HX.out.keep hb)
      replace HZ := Lib.hid (HZ.out.keep hb)
      clear hb
      go_wp2_with fail
      go_ret
      exact ⟨rfl, HB.out⟩
    · obtain ⟨v0, hv0⟩ := hdo.1 rfl
      obtain ⟨⟨s1, s2⟩, p1, p2, p3, p4, p5⟩ := com_yes HQ.out v0 hv0
      have hdc := docCom_yes HNE.out p2 p3
      rw [HD.out] at hdc
      simp only [Prod.mk.injEq, and_true] at hdc
      obtain ⟨rfl, rfl⟩ := hdc
      have hf := fit_yes p1
      rw [HFP.out] at hf
      rw [HCP.out] at p1
      simp only [Prod.mk.injEq] at p1 hf
      obtain ⟨⟨rfl, rfl⟩, rfl⟩ := p1
      obtain ⟨rfl, rfl⟩ := hf
      simp only at p4 p5
      have hmm : midI (c1, c2) = (c1 + c2) / 2 := by unfold midI; simp only at p2 ⊢; omega
      have HFT := Lib.hid fun v W hW => rfit_any L v W hW c1 c2 HD.out p4 p5
      have HI := Lib.hid (And.intro p4 p5)
      rw [← hmm] at HFT
      clear hv0 hdo p2 p3 p4 p5 hmm
      generalize midI (c1, c2) = fz at *
      go_wp2_with fail
      refine (HFT.out _ w12 HU.out).mono ?_
      rintro e w14 ⟨rfl, hb⟩
      replace HB := Lib.hid (HB.out.trans (hb.mono HB.out.size))
      replace HU := Lib.hid (HU.out.keep hb)
      replace HX := Lib.hid (HX.out.keep hb)
      replace HZ := Lib.hid (HZ.out.keep hb)
      clear hb
      go_upto_region 14 with (fail)
      refine Agg.listR 17 (by kernel_rfl) ?_
      simp only [List.take_succ_cons, List.take_zero, List.drop_succ_cons, List.drop_zero]
      refine Agg.chMove rfl rfl rfl rfl ?_
      refine Agg.chEq true (by decide) rfl rfl rfl rfl rfl ?_
      refine Agg.chMove rfl rfl rfl rfl ?_
      refine Agg.chRowB 2 HX.out rfl (by decide +kernel) rfl rfl rfl rfl ?_
      refine Agg.chRowB 2 HZ.out rfl (by decide +kernel) rfl rfl rfl rfl ?_
      refine Agg.chBin (v := .bool true) rfl rfl rfl rfl rfl (fun w => flatSp.gd .eql _ _ _ _ w) (fun w => sp_eql c1 c2 c1 c2 HI.out HI.out true (by simp) w) ?_
      refine Agg.chPick rfl rfl rfl rfl rfl ?_
      refine Agg.chMove rfl rfl rfl rfl ?_
      refine Agg.chMove rfl rfl rfl rfl ?_
      refine Agg.chEq true (by decide) rfl rfl rfl rfl rfl ?_
      refine Agg.chPick rfl rfl rfl rfl rfl ?_
      refine Agg.chMove rfl rfl rfl rfl ?_
      refine Agg.chMove rfl rfl rfl rfl ?_
      refine Agg.chMove rfl rfl rfl rfl ?_
      refine Agg.chEq true (beq_self_eq_true _) rfl rfl rfl rfl rfl ?_
      refine Agg.chPick rfl rfl rfl rfl rfl ?_
      refine Agg.chAssign rfl rfl rfl rfl ?_
      refine Agg.chEnd ?_
      intro vs w15 hb _
      show Exit.then _ _ Exit.normal _ _
      simp only [List.reverse, List.reverseAux, Agg.fill, List.set_cons_succ, List.set_cons_zero]
      replace HB := Lib.hid (HB.out.trans (hb.mono HB.out.size))
      replace HU := Lib.hid (HU.out.keep hb)
      replace HX := Lib.hid (HX.out.keep hb)
      replace HZ := Lib.hid (HZ.out.keep hb)
      clear hb
      go_wp2_with fail
      go_ret
      exact ⟨rfl, HB.out⟩
theorem PmcFits_walk (v : Value) (f : Nat) (w : World) (h : Agg.Good Try.prog w f 22 [v]) :
    Calls Try.prog 3 #[v] w fun e w' => e = .returned (.bool true) ∧ Below w.heap.size w w' := by
  obtain ⟨l, h3, h4⟩ := good_bands h
  exact fits_walk l v w h3 h4
end Go.Proofs.Ytchpkgneloiidaa
end
