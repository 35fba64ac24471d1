/-
  THE DOCUMENT's SPANS (layer 4): Middle.
-/
import Derived.Test.YtcedalenjcbnmaaWdI
import Derived.Test.YtcedalenjcbnmaaWdC
import Derived.Test.YtcedalenjcbnmaaChain3
namespace Agg
open Go Go.ChangeShapes Go.WideShapes Go.ChangeAt Go.RowKit
section
variable {n kk : Nat} {P : Program} {l rest : List Oper} {W : World} {l0 : List Value} {ds : List Deferred} {acc : List R} {o : Oper} {fin : List R → Prop}
/-- a move of something of which something is known -/
theorem chMoveO {t : Nat} (j : Nat) {g : Value → World → Prop} (hst : Stable g) (ho : o.op = .move (.tmp t)) (hd : depL o j = true) (hj : look kk acc j = some (.op g)) (ht : (l[j]?).map (·.dst) = some (some t)) (hw : wants kk acc o = some true) (hk : gOk l o = true)
    (h : ChainR n P l.toArray W ⟨l0.toArray, ds⟩ (kk + 1) ((.op g) :: acc) rest fin) : ChainR n P l.toArray W ⟨l0.toArray, ds⟩ kk acc (o :: rest) fin :=
  chPureG (by rw [ho]; rfl) hw hk hst (fun a w hh => by
    obtain ⟨v, hv, hg⟩ := hh.op j t hd hj ht
    exact ⟨v, hg, fun w' => by simp only [execOp, ho, hv, Sem.run_pure]⟩) h
/-- a part of something of which something is known -/
theorem chExtractO {t i : Nat} (j : Nat) {g g' : Value → World → Prop} (hst : Stable g') (hx : ∀ v w, g v w → ∃ vs u, v = .tuple vs ∧ vs[i]? = some u ∧ g' u w) (ho : o.op = .extract (.tmp t) i) (hd : depL o j = true) (hj : look kk acc j = some (.op g)) (ht : (l[j]?).map (·.dst) = some (some t)) (hw : wants kk acc o = some true) (hk : gOk l o = true)
    (h : ChainR n P l.toArray W ⟨l0.toArray, ds⟩ (kk + 1) ((.op g') :: acc) rest fin) : ChainR n P l.toArray W ⟨l0.toArray, ds⟩ kk acc (o :: rest) fin :=
  chPureG (by rw [ho]; rfl) hw hk hst (fun a w hh => by
    obtain ⟨v, hv, hg⟩ := hh.op j t hd hj ht
    obtain ⟨vs, u, rfl, hu, hg'⟩ := hx v w hg
    exact ⟨u, hg', fun w' => by simp [execOp, ho, hv, Instr.extract, hu]⟩) h
end
end Agg
namespace Go.Proofs.Ytcedalenjcbnmaa
open Go.ChangeShapes Go.WideShapes Go.ChangeAt Go.RowKit Agg Wd

/-- two numbers, as a call hands them back -/
def NumP (a b : Int) (v : Value) (w : World) : Prop := ∃ z y, v = .tuple #[z, y] ∧ NumV a z w ∧ NumV b y w
theorem NumP.stable (a b : Int) : Stable (NumP a b) := fun _ _ _ ⟨z, y, h1, h2, h3⟩ hb => ⟨z, y, h1, NumV.stable _ _ _ _ h2 hb, NumV.stable _ _ _ _ h3 hb⟩
theorem mid_fits {a b : Int} (ha1 : -9223372036854775808 ≤ a) (ha2 : a ≤ 9223372036854775807) (hb1 : -9223372036854775808 ≤ b) (hb2 : b ≤ 9223372036854775807) : fits64 ((a + b) / 2) = true := by
  unfold fits64
  rw [decide_eq_true_eq]; omega
set_option maxHeartbeats 4000000 in
set_option maxRecDepth 100000 in
theorem rMiddle_any (a b : Int) (ha1 : -9223372036854775808 ≤ a) (ha2 : a ≤ 9223372036854775807) (hb1 : -9223372036854775808 ≤ b) (hb2 : b ≤ 9223372036854775807) (w : World) :
    Calls Try.prog 31 #[.agg #[.int .i64 a, .int .i64 b]] w fun e w' => e = .returned (.int .i64 ((a + b) / 2)) ∧ Below w.heap.size w w' := by
  have HIA := Lib.hid (fun W => Int_any a ha1 ha2 W)
  have HIB := Lib.hid (fun W => Int_any b hb1 hb2 W)
  have HLA := Lib.hid (i64_len ha1 ha2)
  have HLB := Lib.hid (i64_len hb1 hb2)
  have HLS := Lib.hid (abs_add_len (i64_len ha1 ha2) (i64_len hb1 hb2))
  have HFT := Lib.hid (mid_fits ha1 ha2 hb1 hb2)
  have HLM : Hid ((digs ((a + b) / 2).natAbs).length ≤ 500) := Lib.hid (by have := i64_len (z := (a + b) / 2) (by omega) (by omega); omega)
  clear ha1 ha2 hb1 hb2
  obtain ⟨M, hM⟩ : ∃ M, (a + b) / 2 = M := ⟨_, rfl⟩
  obtain ⟨N, hN⟩ : ∃ N, (a + b) % 2 = N := ⟨_, rfl⟩
  have HDV : Hid (∀ u v W, NumV (a + b) u W → NumV 2 v W → Calls Try.prog 57 #[u, v] W fun e w' => ∃ r, e = .returned r ∧ NumP M N r w' ∧ Below W.heap.size W w') := by
    refine Lib.hid (fun u v W h1 h2 => (Div_any (a + b) 2 (by decide) (by have := HLS.out; omega) (Nat.le_trans (digs_len (k := 2) (by decide)) (by decide)) u v W h1 h2).mono ?_)
    rintro e w' ⟨z, y, h1, h2, h3, h4⟩
    rw [show ((2 : Nat) : Int) = 2 from rfl, hM] at h2
    rw [show ((2 : Nat) : Int) = 2 from rfl, hN] at h3
    exact ⟨_, h1, ⟨z, y, rfl, h2, h3⟩, h4⟩
  rw [hM] at HFT HLM ⊢
  clear hM hN
  have HB := Lib.hid (Below.refl w.heap.size w)
  go_enter Try.func31, Try.ntmps31
  go_upto_region 1 with (fail)
  refine Agg.wp_at fun w1 hw1 => ?_
  have hb : Below w.heap.size w w1 := by rw [hw1.out]; repeat (first | exact Below.refl _ _ | refine Agg.bel_drew ?_ | refine Agg.bel_alloc ?_ _)
  replace HB := Lib.hid (HB.out.trans (hb.mono HB.out.size))
  clear hb
  have H1 : Hid (Blk w1 w.heap.size 31 [.int .i64 a, .int .i64 b]) := by show Blk _ _ _ _; rw [hw1.out]; exact Blk.new w 31 #[.int .i64 a, .int .i64 b]
  clear hw1
  refine Agg.chainRD 14 (by kernel_rfl) (by kernel_rfl) ?_
  simp only [List.take_succ_cons, List.take_zero, List.drop_succ_cons, List.drop_zero]
  refine Agg.chFA (by first | exact fo_Num_0 | exact fo_Span_0) rfl rfl rfl rfl ?_
  refine Agg.chLoadB H1.out (by decide +kernel) rfl rfl (by rfl) rfl rfl ?_
  refine Agg.chCallG Try.func53 rfl (by kernel_rfl) (NumV a) (NumV.stable _) rfl rfl rfl rfl (fun W hb => HIA.out W) ?_
  refine Agg.chFA (by first | exact fo_Num_1 | exact fo_Span_1) rfl rfl rfl rfl ?_
  refine Agg.chLoadB H1.out (by decide +kernel) rfl rfl (by rfl) rfl rfl ?_
  refine Agg.chCallG Try.func53 rfl (by kernel_rfl) (NumV b) (NumV.stable _) rfl rfl rfl rfl (fun W hb => HIB.out W) ?_
  refine Agg.chCall_oo Try.func56 rfl (by kernel_rfl) (.op (NumV (a + b))) (NumV.stable _) 2 5 rfl rfl rfl rfl rfl rfl rfl rfl rfl (fun u u2 W hb hg hg2 => Add_any a b (by have := HLA.out; omega) (by have := HLB.out; omega) u u2 W hg hg2) ?_
  refine Agg.chCallG Try.func53 rfl (by kernel_rfl) (NumV 2) (NumV.stable _) rfl rfl rfl rfl (fun W hb => Int_any 2 (by decide) (by decide) W) ?_
  refine Agg.chCall_oo Try.func57 rfl (by kernel_rfl) (.op (NumP M N)) (NumP.stable _ _) 6 7 rfl rfl rfl rfl rfl rfl rfl rfl rfl (fun u u2 W hb hg hg2 => HDV.out u u2 W hg hg2) ?_
  refine Agg.chMoveO 8 (NumP.stable _ _) rfl rfl rfl rfl rfl rfl ?_
  refine Agg.chExtractO 9 (NumV.stable M) (fun v w ⟨z, y, h1, h2, h3⟩ => ⟨_, z, h1, rfl, h2⟩) rfl rfl rfl rfl rfl rfl ?_
  refine Agg.chExtractO 9 (NumV.stable N) (fun v w ⟨z, y, h1, h2, h3⟩ => ⟨_, y, h1, rfl, h3⟩) rfl rfl rfl rfl rfl rfl ?_
  refine Agg.chAlloc #[.bool false, .slice none 0 0] rfl (by kernel_rfl) rfl rfl ?_
  refine Agg.chAlloc #[.bool false, .slice none 0 0] rfl (by kernel_rfl) rfl rfl ?_
  refine Agg.chEnd ?_
  intro vs w2 hb hf hap
  simp only [List.reverse, List.reverseAux, Agg.Facts] at hf
  obtain ⟨_, _, _, _, _, _, ⟨t1, hv1, hn1⟩, ⟨t2, hv2, hn2⟩, ⟨b3, hp3, hs3, hk3⟩, ⟨b4, hp4, hs4, hk4⟩, _⟩ := hf
  simp only [List.reverse, List.reverseAux, Agg.fill, List.set_cons_succ, List.set_cons_zero, hv1, hv2, hp3, hp4]
  have h34 : b3 ≠ b4 := by
    have := hap 12 13 _ _ (by decide) rfl rfl rfl rfl rfl rfl
    rw [hp3, hp4] at this
    intro e
    exact this (by rw [e])
  clear hap hv1 hv2 hp3 hp4
  have hsz := HB.out.size
  replace HB := Lib.hid (HB.out.trans (hb.mono hsz))
  clear hb H1
  obtain ⟨y1, e1, rfl, _, _⟩ := SlR.shape hn1
  obtain ⟨y2, e2, rfl, _, _⟩ := SlR.shape hn2
  obtain ⟨q1, hq1⟩ : ∃ f, decide (M < 0) = f := ⟨_, rfl⟩
  obtain ⟨q2, hq2⟩ : ∃ f, decide (N < 0) = f := ⟨_, rfl⟩
  rw [hq1, hq2]
  have HQ1 := Lib.hid hq1
  clear hq1 hq2
  obtain ⟨l1, hl1⟩ : ∃ n, (digs M.natAbs).length = n := ⟨_, rfl⟩
  obtain ⟨l2, hl2⟩ : ∃ n, (digs N.natAbs).length = n := ⟨_, rfl⟩
  rw [hl1] at hn1 ⊢
  rw [hl2] at hn2 ⊢
  clear hl1 hl2
  have hnil : ∀ (xx : Option Addr) (a c : Nat) (z : Int), (Value.slice xx a c) ≠ .int .i64 z := by intro _ _ _ z hz; cases hz
  refine Agg.tStore 2 hk3 rfl rfl rfl rfl rfl (by decide +kernel) rfl rfl (by simp [Value.oneCell']) (fun w30 hb30 hg30 => ?_)
  have hn1' : NB _ _ _ := NB.far hn1 hk3 (hnil _ _ _) hg30
  have hk4' := hk4.far' hg30 (Ne.symm h34)
  have HB2 := HB.out.trans (grown_below hg30 HB.out.size (fun j hj => (by cases hj; omega)))
  refine Agg.tStore 2 hk4' rfl rfl rfl rfl rfl (by decide +kernel) rfl rfl (by simp [Value.oneCell']) (fun w31 hb31 hg31 => ?_)
  have hn1'' : NB _ _ _ := NB.far hn1' hk4' (hnil _ _ _) hg31
  have hb30' := hb30.far' hg31 h34
  have HB3 := HB2.trans (grown_below hg31 HB2.size (fun j hj => (by cases hj; omega)))
  refine Agg.wpNil ?_
  replace HB := Lib.hid HB3
  have H3 := Lib.hid hb30'
  have HN := Lib.hid hn1''
  clear HB3 HB2 hb30' hb30 hb31 hn1'' hn1' hn1 hn2 hk3 hk4 hk4' hg30 hg31 hnil hsz hs3 hs4 h34
  have xH3_0 := H3.out.cell 0
  have xH3_1 := H3.out.cell 1
  have lH3 := H3.out.lt
  simp only [List.getElem?_cons_zero, List.getElem?_cons_succ] at xH3_0 xH3_1
  go_wp2_with fail
  clear xH3_0 xH3_1 lH3
  have hva := Value_any M HLM.out (.agg #[.bool q1, .slice y1 l1 e1]) w31 ⟨_, by rw [HQ1.out], HN.out⟩
  rw [HFT.out] at hva
  refine hva.mono ?_
  rintro e w50 ⟨rfl, hb⟩
  have hb := hb
  replace HB := Lib.hid (HB.out.trans (hb.mono HB.out.size))
  replace H3 := Lib.hid (H3.out.keep hb)
  replace HN := Lib.hid (HN.out.keep hb)
  clear hb
  rw [show (if true = true then M else (0 : Int)) = M from rfl]
  clear hva
  go_wp2_with fail
  go_ret
  exact ⟨rfl, HB.out⟩
end Go.Proofs.Ytcedalenjcbnmaa
