/-
  THE WALKS OF LAYER 7 (runs): a row to which times come keeps what is not its own.
-/
import Derived.Test.YtpligbfajnjklaaRuN
section
namespace Go.Proofs.Ytpligbfajnjklaa
open Go.ChangeShapes Go.WideShapes Go.ChangeAt Go.RowKit Agg Pg Ru

/-- a row's own blocks -/
def OwnR (g : Nat) (W : World) (b : Nat) : Prop := b = g ∨ ∃ v, W.cell? ⟨g, 3, none⟩ = some v ∧ v.ownBlock = some b
/-- runs that are not a row's own are kept, and what is no memory of the program's -/
def KR (g : Nat) (A B : World) : Prop := KeepsFrom 0 A B ∧ ∀ b T cs, Blk A b T cs → ¬ OwnR g A b → Blk B b T cs ∧ ¬ OwnR g B b
theorem kr_end0 {w W w5 : World} {g : Nat} {T : TypeId} {ds : List Value} {o : Option Value} (h0 : w.cell? ⟨g, 3, none⟩ = o) (hb : Below w.heap.size w W) (hT : Blk W g T ds) (h5 : W.grownBy w5 (some g)) (hc : w5.cell? ⟨g, 3, none⟩ = o) : KR g w w5 := ⟨(Agg.keeps_below hb).trans (Agg.keeps_blk hT h5), fun b _ cs hB ho => by
  have h1 : b ≠ g := fun e => ho (.inl e)
  refine ⟨(hB.keep hb).far' h5 h1, fun h => h.elim h1 fun ⟨v, h2, h3⟩ => ho (.inr ⟨v, ?_, h3⟩)⟩
  rw [h0, ← hc]; exact h2⟩
theorem kr_end {w W w4 w5 w6 : World} {g : Nat} {T : TypeId} {d4 d5 : List Value} {base : Nat} {e : TypeId} {sz n : Nat} {xs : List Value} {v v' : Value} (h0 : w.cell? ⟨g, 3, none⟩ = some v) (hb : Below w.heap.size w W) (hO : W.ownsRow base e sz v n xs) (h4 : W.grownBy w4 v.ownBlock) (hv : v'.ownBlock = v.ownBlock ∨ v'.ownBlock = some W.heap.size)
    (hT4 : Blk w4 g T d4) (h5 : w4.grownBy w5 (some g)) (hT5 : Blk w5 g T d5) (h6 : w5.grownBy w6 (some g)) (hc : w6.cell? ⟨g, 3, none⟩ = some v') : KR g w w6 := ⟨((Agg.keeps_below hb).trans (Agg.keeps_own hO h4)).trans ((Agg.keeps_blk hT4 h5).trans (Agg.keeps_blk hT5 h6)), fun b _ cs hB ho => by
  have h1 : b ≠ g := fun e => ho (.inl e)
  have h2 : v.ownBlock ≠ some b := fun e => ho (.inr ⟨v, h0, e⟩)
  refine ⟨((blk_row (hB.keep hb) h4 (.inr h2)).far' h5 h1).far' h6 h1, fun h => h.elim h1 fun ⟨u, h7, h8⟩ => ?_⟩
  rw [hc] at h7
  cases h7
  rcases hv with e | e
  · exact h2 (by rw [← e]; exact h8)
  · rw [e] at h8
    have := hb.size
    have := hB.lt
    cases h8; omega⟩
set_option maxHeartbeats 2000000 in
set_option maxRecDepth 100000 in
theorem takeK_any (s : Rn × List Rn) (t : Int) (base g : Nat) (w : World) (hi : RowI s) (ht : 0 ≤ t ∧ t ≤ maxT) (hbw : base ≤ w.heap.size) (h : RowO base w g s) :
    Calls Try.prog 50 #[.pointer (some ⟨g, 0, none⟩), .int .i64 t] w fun e w' => e = .returned (.tuple #[]) ∧ RowO base w' g (take s t) ∧ Below base w w' ∧ KR g w w' := by
  obtain ⟨⟨a, s, c⟩, D⟩ := s
  obtain ⟨v, hbg, h1, h2⟩ := h
  obtain ⟨vx, vc, rfl, _, _⟩ := (ownSl h2).shape
  obtain ⟨hi1, hi2⟩ := hi
  obtain ⟨t1, t2⟩ := ht
  unfold maxT at t2
  have H1 := Lib.hid h1
  have HK1 := Lib.hid h1
  have HD := Lib.hid h2
  simp only at hi1 hi2 H1 HD
  have HD2 := Lib.hid hi2
  obtain ⟨r, hr⟩ : ∃ r, take ((a, s, c), D) t = r := ⟨_, rfl⟩
  rw [hr]
  have hr2 := hr
  unfold take at hr2
  simp only at hr2
  have HR := Lib.hid hr2
  clear h1 h2 hr hr2 hi2
  have HB := Lib.hid (Below.refl w.heap.size w)
  go_enter Try.func50, Try.ntmps50
  by_cases c0 : c = 0
  · have hr := HR.out
    rw [if_pos c0] at hr
    subst hr
    subst c0
    clear HR
    have xH1_0 := H1.out.cell 0
    have xH1_1 := H1.out.cell 1
    have xH1_2 := H1.out.cell 2
    have xH1_3 := H1.out.cell 3
    have lH1 := H1.out.lt
    simp only [List.getElem?_cons_zero, List.getElem?_cons_succ] at xH1_0 xH1_1 xH1_2 xH1_3
    have h1 := H1.out
    go_wp2_with (refine Agg.gStoreMid 3 0 [.int .i64 t, .int .i64 0, .int .i64 1] h1 rfl rfl rfl rfl rfl (by decide +kernel) rfl (by simp) (by simp [Value.oneCell']) (fun w12 hb12 hg12 => ?_))
    simp only [spliced, List.take_succ_cons, List.take_zero, List.drop_succ_cons, List.drop_zero, List.length_cons, List.length_nil, List.cons_append, List.nil_append] at hb12
    have hD := HD.out.kept hg12 (own_apart HD.out H1.out rowNe)
    have hbel := (HB.out.mono hbw).trans (grown_below hg12 (Nat.le_trans hbw HB.out.size) (fun j hj => (by cases hj; exact hbg)))
    have HKR := Lib.hid (kr_end0 (HK1.out.cell 3) HB.out h1 hg12 (hb12.cell 3))
    clear hg12
    go_end0
    exact ⟨rfl, ⟨_, hbg, hb12, hD⟩, hbel, HKR.out⟩
  · have hr := HR.out
    have hsz : sized (a, s, c) = true := hi1.elim (fun e => absurd e c0) id
    rw [if_neg c0] at hr
    clear HR
    have HSZ := Lib.hid hsz
    have hb6 := (sized_iff _).1 hsz
    simp only at hb6
    obtain ⟨z1, z2, z3, z4, z5, z6⟩ := hb6
    unfold maxT at z4 z6
    have c0b : (c == 0) = false := by simpa using c0
    clear hi1 hsz
    by_cases c1 : c = 1
    · rw [if_pos c1] at hr
      subst hr
      have c1b : (c == 1) = true := by simpa using c1
      clear c1
      have xH1_0 := H1.out.cell 0
      have xH1_1 := H1.out.cell 1
      have xH1_2 := H1.out.cell 2
      have xH1_3 := H1.out.cell 3
      have lH1 := H1.out.lt
      simp only [List.getElem?_cons_zero, List.getElem?_cons_succ] at xH1_0 xH1_1 xH1_2 xH1_3
      go_upto_region 5 with (fail)
      clear xH1_0 xH1_1 xH1_2 xH1_3 lH1
      refine Agg.chainR 19 (by kernel_rfl) (by kernel_rfl) ?_
      simp only [List.take_succ_cons, List.take_zero, List.drop_succ_cons, List.drop_zero]
      refine Agg.chMove rfl rfl rfl rfl ?_
      refine Agg.chMove rfl rfl rfl rfl ?_
      refine Agg.chNil rfl rfl rfl rfl ?_
      refine Agg.chFA fo_fo_Row_0 rfl rfl rfl rfl ?_
      refine Agg.chFA fo_fo_Open_0 rfl rfl rfl rfl ?_
      refine Agg.chFA fo_fo_Run_0 rfl rfl rfl rfl ?_
      refine Agg.chLoadB H1.out (by decide +kernel) rfl rfl (by rfl) rfl rfl ?_
      refine Agg.chMove rfl rfl rfl rfl ?_
      refine Agg.chMove rfl rfl rfl rfl ?_
      refine Agg.chNil rfl rfl rfl rfl ?_
      refine Agg.chFA fo_fo_Row_0 rfl rfl rfl rfl ?_
      refine Agg.chFA fo_fo_Open_0 rfl rfl rfl rfl ?_
      refine Agg.chFA fo_fo_Run_0 rfl rfl rfl rfl ?_
      refine Agg.chLoadB H1.out (by decide +kernel) rfl rfl (by rfl) rfl rfl ?_
      refine Agg.chAr64 rfl rfl rfl rfl (by omega) (by omega) rfl rfl ?_
      refine Agg.chBuild (v := .agg #[.int .i64 a, .int .i64 (t - a), .int .i64 2]) rfl rfl rfl rfl (fun W => build_run3 a (t - a) 2 W) ?_
      refine Agg.chNil rfl rfl rfl rfl ?_
      refine Agg.chFA fo_fo_Row_0 rfl rfl rfl rfl ?_
      refine Agg.chFA fo_fo_Open_0 rfl rfl rfl rfl ?_
      refine Agg.chEnd ?_
      intro vs w1 hb hf
      simp only [List.reverse, List.reverseAux, Agg.Facts] at hf
      obtain _ := hf
      simp only [List.reverse, List.reverseAux, Agg.fill, List.set_cons_succ, List.set_cons_zero]
      have h1 := H1.out.keep hb
      have hd := own_keep HD.out hb
      have hbb := HB.out.trans (hb.mono HB.out.size)
      go_wp2_with (refine Agg.gStoreMid 3 0 [.int .i64 a, .int .i64 (t - a), .int .i64 2] h1 rfl rfl rfl rfl rfl (by decide +kernel) rfl (by simp) (by simp [Value.oneCell']) (fun w12 hb12 hg12 => ?_))
      simp only [spliced, List.take_zero, List.drop_succ_cons, List.drop_zero, List.length_cons, List.length_nil, List.cons_append, List.nil_append] at hb12
      have hD := hd.kept hg12 (own_apart hd h1 rowNe)
      have hbel := (hbb.mono hbw).trans (grown_below hg12 (Nat.le_trans hbw hbb.size) (fun j hj => (by cases hj; exact hbg)))
      have HKR := Lib.hid (kr_end0 (HK1.out.cell 3) hbb h1 hg12 (hb12.cell 3))
      refine Agg.noP ?_
      go_wp2_with fail
      go_end0
      exact ⟨rfl, ⟨_, hbg, hb12, hD⟩, hbel, HKR.out⟩
    · rw [if_neg c1] at hr
      have c1b : (c == 1) = false := by simpa using c1
      obtain ⟨z, hz⟩ : ∃ z, last (a, s, c) = z := ⟨_, rfl⟩
      rw [hz] at hr
      have HZ := Lib.hid hz
      have hzb : -1 ≤ z ∧ z ≤ 72057594037927936 := by
        have h1 := sized_last HSZ.out
        simp only at h1
        rw [← hz]; simp only [last]; omega
      obtain ⟨hz1, hz2⟩ := hzb
      clear hz
      have HR := Lib.hid hr
      clear hr
      have xH1_0 := H1.out.cell 0
      have xH1_1 := H1.out.cell 1
      have xH1_2 := H1.out.cell 2
      have xH1_3 := H1.out.cell 3
      have lH1 := H1.out.lt
      simp only [List.getElem?_cons_zero, List.getElem?_cons_succ] at xH1_0 xH1_1 xH1_2 xH1_3
      go_upto_region 6 with (fail)
      clear xH1_0 xH1_1 xH1_2 xH1_3 lH1
      have h1r : ∀ i v, (ruC (a, s, c))[i]? = some v → w.cell? ⟨g, 0 + 0 + 0 + i, none⟩ = some v := fun i v hv => by
        rw [H1.out.cell]
        simp only [Nat.zero_add]
        match i, hv with
        | 0, hv => exact hv
        | 1, hv => exact hv
        | 2, hv => exact hv
      have H1R := Lib.hid h1r
      clear h1r
      refine Agg.chainR 16 (by kernel_rfl) (by kernel_rfl) ?_
      simp only [List.take_succ_cons, List.take_zero, List.drop_succ_cons, List.drop_zero]
      refine Agg.chMove rfl rfl rfl rfl ?_
      refine Agg.chMove rfl rfl rfl rfl ?_
      refine Agg.chNil rfl rfl rfl rfl ?_
      refine Agg.chFA fo_fo_Row_0 rfl rfl rfl rfl ?_
      refine Agg.chFA fo_fo_Open_0 rfl rfl rfl rfl ?_
      refine Agg.chRowAt 3 (ruC (a, s, c)) rfl (by decide +kernel) rfl rfl rfl rfl H1R.out ?_
      refine Agg.chCall Try.func48 rfl (by kernel_rfl) rfl rfl rfl rfl (fun W hb => by have h := last_any (a, s, c) HSZ.out W; rw [HZ.out] at h; exact h) ?_
      refine Agg.chAr64 rfl rfl rfl rfl (by omega) (by omega) rfl rfl ?_
      refine Agg.chMove rfl rfl rfl rfl ?_
      refine Agg.chNil rfl rfl rfl rfl ?_
      refine Agg.chFA fo_fo_Row_0 rfl rfl rfl rfl ?_
      refine Agg.chFA fo_fo_Open_0 rfl rfl rfl rfl ?_
      refine Agg.chFA fo_fo_Run_1 rfl rfl rfl rfl ?_
      refine Agg.chLoadB H1.out (by decide +kernel) rfl rfl (by rfl) rfl rfl ?_
      refine Agg.chCmp rfl rfl rfl rfl rfl rfl ?_
      refine Agg.chAssign rfl rfl rfl rfl ?_
      refine Agg.chEnd ?_
      intro vs w2 hb _
      refine Agg.wpNil ?_
      simp only [List.reverse, List.reverseAux, Agg.fill, List.set_cons_succ, List.set_cons_zero]
      replace HB := Lib.hid (HB.out.trans (hb.mono HB.out.size))
      replace H1 := Lib.hid (H1.out.keep hb)
      replace HD := Lib.hid (HD.out.keep hb)
      clear hb
      clear H1R
      by_cases heq : t - z = s
      · have hr := HR.out
        rw [if_pos heq] at hr
        subst hr
        have heqb : (t - z == s) = true := by simpa using heq
        clear heq
        have xH1_0 := H1.out.cell 0
        have xH1_1 := H1.out.cell 1
        have xH1_2 := H1.out.cell 2
        have xH1_3 := H1.out.cell 3
        have lH1 := H1.out.lt
        simp only [List.getElem?_cons_zero, List.getElem?_cons_succ] at xH1_0 xH1_1 xH1_2 xH1_3
        have h1 := H1.out
        go_wp2_with (refine Agg.gStoreCell 2 (.int .i64 (c + 1)) h1 rfl rfl rfl rfl rfl (by kernel_rfl) rfl (by simp) rfl (fun w12 hb12 hg12 => ?_))
        simp only [spliced, List.take_succ_cons, List.take_zero, List.drop_succ_cons, List.drop_zero, List.length_cons, List.length_nil, List.cons_append, List.nil_append] at hb12
        have hD := HD.out.kept hg12 (own_apart HD.out H1.out rowNe)
        have hbel := (HB.out.mono hbw).trans (grown_below hg12 (Nat.le_trans hbw HB.out.size) (fun j hj => (by cases hj; exact hbg)))
        have HKR := Lib.hid (kr_end0 (HK1.out.cell 3) HB.out h1 hg12 (hb12.cell 3))
        go_end0
        exact ⟨rfl, ⟨_, hbg, hb12, hD⟩, hbel, HKR.out⟩
      · have hr := HR.out
        rw [if_neg heq] at hr
        subst hr
        have heqb : (t - z == s) = false := by simpa using heq
        have h1r : ∀ i v, (ruC (a, s, c))[i]? = some v → w2.cell? ⟨g, 0 + 0 + 0 + i, none⟩ = some v := fun i v hv => by
          rw [H1.out.cell]
          simp only [Nat.zero_add]
          match i, hv with
          | 0, hv => exact hv
          | 1, hv => exact hv
          | 2, hv => exact hv
        have H1R := Lib.hid h1r
        clear h1r
        go_upto_region 0 with (fail)
        refine Agg.chainR 11 (by kernel_rfl) (by kernel_rfl) ?_
        simp only [List.take_succ_cons, List.take_zero, List.drop_succ_cons, List.drop_zero]
        refine Agg.chMove rfl rfl rfl rfl ?_
        refine Agg.chMove rfl rfl rfl rfl ?_
        refine Agg.chNil rfl rfl rfl rfl ?_
        refine Agg.chFA fo_fo_Row_1 rfl rfl rfl rfl ?_
        refine Agg.chLoadB H1.out (by decide +kernel) rfl rfl (by rfl) rfl rfl ?_
        refine Agg.chMove rfl rfl rfl rfl ?_
        refine Agg.chNil rfl rfl rfl rfl ?_
        refine Agg.chFA fo_fo_Row_0 rfl rfl rfl rfl ?_
        refine Agg.chFA fo_fo_Open_0 rfl rfl rfl rfl ?_
        refine Agg.chRowAt 3 (ruC (a, s, c)) rfl (by decide +kernel) rfl rfl rfl rfl H1R.out ?_
        refine Agg.chBuildSlice (e := 31) (ruC (a, s, c)).toArray rfl rfl rfl rfl (fun W => lit_run (a, s, c) W) ?_
        refine Agg.chEnd ?_
        intro vs w3 hb hf
        simp only [List.reverse, List.reverseAux, Agg.Facts] at hf
        obtain ⟨⟨g9, hv9, hb9, hk9⟩, _⟩ := hf
        simp only [List.reverse, List.reverseAux, Agg.fill, List.set_cons_succ, List.set_cons_zero, hv9]
        clear hv9
        have hT3 := H1.out.keep hb
        have hC3 := own_keep HD.out hb
        have hsl : SlR w3 (.slice (some ⟨g9, 0, none⟩) 1 1) 3 1 (ruC (a, s, c)) := NewSl.sl (b0 := w2.heap.size) (e := 31) ⟨g9, rfl, hb9, hk9⟩ rfl (by unfold maxLen; decide)
        have HB3 := Lib.hid (HB.out.trans (hb.mono HB.out.size))
        clear hb9 hk9 hb
        refine Agg.append2 ti24 (.tmp 8) (.tmp 14) rfl rfl base (v := .slice vx D.length vc) rfl hC3 rfl hsl (by simp [ruC, Value.oneCell']) (by have := HD2.out; unfold maxLen; omega) (by have := HD2.out; omega) (by have := HB3.out.size; omega) ?_
        intro v' w4 hC4 hg4 hwh
        simp only [Act.put, List.setIfInBounds_toArray, List.set_cons_succ, List.set_cons_zero]
        have hne := own_apart hC3 hT3 rowNe
        have hT4 := blk_row hT3 hg4 hne
        have hB4 := (HB3.out.mono hbw).trans (grown_below hg4 (by have := HB3.out.size; omega) (own_block hC3))
        have hsz4 := hg4.size
        obtain ⟨vx2, vc2, rfl, _, _⟩ := (ownSl hC4).shape
        have HC4 := Lib.hid hC4
        have HB4 := Lib.hid hB4
        have HT4 := Lib.hid hT4
        have HW4 := Lib.hid (And.intro HB3.out (And.intro hg4 (And.intro hwh hC3)))
        clear hwh
        clear hsl hg4 hC3 hC4 hB4 HB3 hT3 hne HD H1 HB
        go_wp2_with (refine Agg.gStoreCell 3 (.slice vx2 (D.length + 1) vc2) hT4 rfl rfl rfl rfl rfl (by kernel_rfl) rfl (by simp) rfl (fun w13 hb13 hg13 => ?_); clear hT4)
        refine Agg.noP ?_
        have hC13 := HC4.out.kept hg13 (own_apart HC4.out HT4.out rowNe)
        have hB13 := HB4.out.trans (grown_below hg13 (by have := HB4.out.size; omega) (fun j hj => (by cases hj; exact hbg)))
        simp only [spliced, List.take_succ_cons, List.take_zero, List.drop_succ_cons, List.drop_zero, List.drop_nil, List.length_cons, List.length_nil, List.cons_append, List.nil_append] at hb13
        have h13 := hb13
        go_wp2_with (refine Agg.gStoreMid 3 0 [.int .i64 t, .int .i64 0, .int .i64 1] h13 rfl rfl rfl rfl rfl (by decide +kernel) rfl (by simp) (by simp [Value.oneCell']) (fun w14 hb14 hg14 => ?_))
        simp only [spliced, List.take_succ_cons, List.take_zero, List.drop_succ_cons, List.drop_zero, List.length_cons, List.length_nil, List.cons_append, List.nil_append] at hb14
        have hD := hC13.kept hg14 (own_apart hC13 h13 rowNe)
        have HKR := Lib.hid (kr_end (HK1.out.cell 3) HW4.out.1 HW4.out.2.2.2 HW4.out.2.1 HW4.out.2.2.1 HT4.out hg13 hb13 hg14 (hb14.cell 3))
        have hbel := hB13.trans (grown_below hg14 (Nat.le_trans hbw hB13.size) (fun j hj => (by cases hj; exact hbg)))
        go_end0
        have e1 : (D ++ [((a, s, c) : Rn)]).length = D.length + 1 := by simp
        have e2 : (D ++ [((a, s, c) : Rn)]).flatMap ruC = D.flatMap ruC ++ ruC (a, s, c) := by rw [List.flatMap_append]; simp
        refine ⟨rfl, ⟨.slice vx2 (D.length + 1) vc2, hbg, hb14, ?_⟩, hbel, HKR.out⟩
        show w14.ownsRow _ _ _ _ (D ++ [((a, s, c) : Rn)]).length ((D ++ [((a, s, c) : Rn)]).flatMap ruC)
        rw [e1, e2]; exact hD
end Go.Proofs.Ytpligbfajnjklaa
end
section
/-
  THE WALKS OF LAYER 7 (runs): the iterator over the times of runs, whatever it reads, where a body writes what is its own.
-/
namespace Ru
open Go Go.RowKit Agg
def OkM (Mem : World → Prop) (n1 : Nat) (Own : World → Nat → Prop) (W : World) : Prop := Mem W ∧ n1 ≤ W.heap.size ∧ Wd Own W
end Ru
namespace Go.Proofs.Ytpligbfajnjklaa
open Go.ChangeShapes Go.WideShapes Go.ChangeAt Go.RowKit Agg Pg Ru
attribute [local go_sem] Oper.semAt_some

set_option maxHeartbeats 4000000 in
set_option maxRecDepth 100000 in
theorem all1_iterM (l : List Rn) (x : Option Addr) (cap kb n0 n1 : Nat) (Own : World → Nat → Prop) (Mem : World → Prop) (hs : ∀ r ∈ l, sized r = true) (hm : many l ≤ 256) (hln : (l.length : Int) ≤ 9223372036854775807)
    (hM1 : ∀ W, Mem W → Rus W (.slice x l.length cap) l) (hM2 : ∀ A B, Mem A → Below A.heap.size A B → Mem B) (hM3 : ∀ A B, Mem A → KpO n0 Own A B → Mem B)
    (hO : ∀ A B b, n1 ≤ A.heap.size → Below A.heap.size A B → (Own B b ↔ Own A b)) :
    Iter Try.prog 54 #[.pointer (some ⟨kb, 0, none⟩)] (fun t => #[.int .i64 t]) (fun A B => Below A.heap.size A B) (KpO n0 Own) (times l) (fun W => OkM Mem n1 Own W ∧ Blk W kb 24 [.slice x l.length cap]) := by
  intro lr J Jx W hok hJ hJx hY h0
  have HS := Lib.hid hs
  have HM := Lib.hid hm
  have HM1 := Lib.hid hM1
  have HM2 := Lib.hid hM2
  have HM3 := Lib.hid hM3
  have HO := Lib.hid hO
  have HJ := Lib.hid hJ
  have HJX := Lib.hid hJx
  have HY := Lib.hid hY
  have HK := Lib.hid hok.2
  have HOK := Lib.hid hok.1
  have H00 := Lib.hid h0
  clear hs hm hM1 hM2 hM3 hO hJ hJx hY hok h0
  go_enter Try.func54, Try.ntmps54
  have c1 := HK.out.cell 0
  simp only [List.getElem?_cons_zero] at c1
  go_step3
  go_wp2_with fail
  go_step3
  go_wp2_with fail
  clear c1
  go_loopw [8] (fun i wr => ∃ k : Nat, k ≤ l.length ∧ i = .int .i64 k ∧ OkM Mem n1 Own wr ∧ J (times (l.take k)).length wr) (fun i _ => l.length - (intOf i).toNat)
  case atStart => exact ⟨0, by omega, rfl, HOK.out, H00.out⟩
  case round =>
    obtain ⟨k, hk, rfl, hok, hj⟩ := hrel
    have HOK1 := Lib.hid hok
    have HJ1 := Lib.hid hj
    clear hok hj HOK H00 HK
    by_cases hlt : k < l.length
    · have hsz := HS.out _ (List.getElem_mem hlt)
      have HL := Lib.hid (HM1.out _ HOK1.out.1)
      obtain ⟨b, o, cap', hve, _, _, _, _⟩ := SlR.pos HL.out (by decide) (by omega)
      simp only [Value.slice.injEq, true_and] at hve
      obtain ⟨rfl, rfl⟩ := hve
      have hrow := flat_at ruC 3 (by decide) HL.out (fun b hb => rfl) hlt
      obtain ⟨r, hr⟩ : ∃ r, l[k] = r := ⟨_, rfl⟩
      obtain ⟨a, s, c⟩ := r
      have HT := Lib.hid (fun i hi => times_at hlt hr i hi)
      have HN := Lib.hid (times_next hlt hr)
      rw [hr] at hrow hsz
      have hc0 := ((sized_iff _).1 hsz)
      simp only at hc0
      clear hr
      obtain ⟨M, hM⟩ : ∃ M, (times (l.take k)).length = M := ⟨_, rfl⟩
      rw [hM] at HT HN HJ1
      clear hM
      obtain ⟨wA, hwA⟩ : ∃ x, x = wr := ⟨_, rfl⟩
      subst hwA
      go_upto_region 3 with (first
        | (refine Agg.gLoad 3 [.int .i64 a, .int .i64 s, .int .i64 c] rfl rfl rfl (by decide +kernel) rfl hrow ?_; simp only [Act.put, List.setIfInBounds_toArray, List.set_cons_succ, List.set_cons_zero])
        | (refine Agg.allocRow 31 #[.int .i64 0, .int .i64 0, .int .i64 0] rfl rfl (by kernel_rfl) ?_; simp only [Act.put, List.setIfInBounds_toArray, List.set_cons_succ, List.set_cons_zero])
        | (refine Agg.gStoreNew 3 [.int .i64 a, .int .i64 s, .int .i64 c] rfl rfl rfl rfl rfl rfl (by decide +kernel) rfl rfl rfl ?_; simp only [Act.put]))
      have HBX := Lib.hid (Blk.new wA 31 #[.int .i64 a, .int .i64 s, .int .i64 c])
      have hbA : Below wA.heap.size wA (wA.alloc (.cells #[.int .i64 a, .int .i64 s, .int .i64 c] 31)) := (Below.refl _ _).alloc (Nat.le_refl _) _
      have HJB := Lib.hid (HJ.out _ _ _ HJ1.out hbA)
      have hown : ¬ Own (wA.alloc (.cells #[.int .i64 a, .int .i64 s, .int .i64 c] 31)) wA.heap.size := fun h => by
        have := HOK1.out.2.2 _ ((HO.out wA _ _ HOK1.out.2.1 hbA).1 h); omega
      have hwd : Wd Own (wA.alloc (.cells #[.int .i64 a, .int .i64 s, .int .i64 c] 31)) := fun b h => by
        have h1 := HOK1.out.2.2 _ ((HO.out wA _ _ HOK1.out.2.1 hbA).1 h)
        exact Nat.lt_of_lt_of_le h1 hbA.size
      have HOKB : Hid (OkM Mem n1 Own (wA.alloc (.cells #[.int .i64 a, .int .i64 s, .int .i64 c] 31))) := Lib.hid ⟨HM2.out _ _ HOK1.out.1 hbA, Nat.le_trans HOK1.out.2.1 hbA.size, hwd⟩
      have HOW := Lib.hid hown
      refine Agg.wp_at fun wB hwB => ?_
      rw [← hwB.out] at HBX HJB HOKB HOW
      clear hwB hrow hbA hown hwd HL HJ1 HOK1
      have e2 := HBX.out.cell 2
      simp only [List.getElem?_cons_zero, List.getElem?_cons_succ] at e2
      generalize wA.heap.size = g at *
      go_wp2_with fail
      go_loopw [14] (fun i wr => ∃ n : Nat, (n : Int) ≤ c ∧ i = .int .i64 n ∧ OkM Mem n1 Own wr ∧ J (M + n) wr ∧ Blk wr g 31 [.int .i64 a, .int .i64 s, .int .i64 c] ∧ ¬ Own wr g) (fun i _ => c.toNat - (intOf i).toNat)
      case atStart => exact ⟨0, by omega, rfl, HOKB.out, HJB.out, HBX.out, HOW.out⟩
      case round =>
        obtain ⟨n, hn, rfl, hok, hj, hb, ho⟩ := hrel
        have HOK2 := Lib.hid hok
        have HJ2 := Lib.hid hj
        have HBX2 := Lib.hid hb
        have HOW2 := Lib.hid ho
        clear hok hj hb ho HOKB HJB HBX HOW
        by_cases hnc : (n : Int) < c
        · obtain ⟨m1, m2, m3, m4⟩ := sized_here hsz hnc
          obtain ⟨hMl, hMe⟩ := HT.out n hnc
          obtain ⟨fn, tmps, assign, body, hy, hR⟩ := HY.out (M + n) hMl wr HJ2.out
          rw [hMe] at hy
          have e0 := HBX2.out.cell 0
          have e1 := HBX2.out.cell 1
          simp only [List.getElem?_cons_zero, List.getElem?_cons_succ] at e0 e1
          clear hMe
          refine (wpIn_wide (n := 2)).1 ?_
          gi_wp2
          refine hR.mono ?_
          rintro e W2 (⟨rfl, hj2, hk2⟩ | ⟨rfl, hjx2⟩)
          · have HJ3 := Lib.hid hj2
            have HK3 := Lib.hid hk2
            clear hj2 hk2 hR hy e0 e1
            gi_wp2
            go_wp2_with fail
            obtain ⟨q1, q2⟩ := HK3.out.2.2.2 _ _ HBX2.out HOW2.out
            exact ⟨⟨n + 1, by omega, by go_num, ⟨HM3.out _ _ HOK2.out.1 HK3.out, Nat.le_trans HOK2.out.2.1 HK3.out.2.1, HK3.out.2.2.1 HOK2.out.2.2⟩, HJ3.out, q1, q2⟩, by simp [intOf]; omega⟩
          · have HJX2 := Lib.hid hjx2
            clear hjx2 hR hy e0 e1
            gi_wp2
            go_wp2_with fail
            rw [Exit.noGoto_normal]
            go_end0
            exact ⟨⟨_, rfl⟩, .inr ⟨_, hMl, HJX2.out⟩⟩
        · have HJ4 : Hid (J (times (l.take (k + 1))).length wr) := Lib.hid (by rw [HN.out, show c.toNat = n by omega]; exact HJ2.out)
          go_wp2_with fail
          exact ⟨⟨k + 1, by omega, by go_num, HOK2.out, HJ4.out⟩, by simp [intOf]; omega⟩
    · obtain rfl : k = l.length := by omega
      rw [List.take_length] at HJ1
      go_wp2_with fail
      rw [Exit.noGoto_normal]
      go_end0
      exact ⟨⟨_, rfl⟩, .inl HJ1.out⟩
end Go.Proofs.Ytpligbfajnjklaa
end
