/-
  THE WALKS OF LAYER 8 (pmc): which bands may be; a band is taken.
-/
import Derived.Deep.Cut
import Derived.Deep.CutBlock
import Derived.OpenShut
import Derived.ShutString
import Derived.ChangeOld
import Derived.Deep.Slices
import Derived.Test.YtchpkgneloiidaaPm1
import Derived.Test.YtchpkgneloiidaaHeld
import Derived.Test.YtchpkgneloiidaaChain4
import Derived.Test.YtchpkgneloiidaaChain3
import Derived.Test.YtchpkgneloiidaaApp
import Derived.Test.YtchpkgneloiidaaAgg
section
namespace Pm
open Go Go.RowKit Agg
def bdC (r : Bd) : List Value := [.int .i64 r.1, .int .i64 r.2.1, .int .i64 r.2.2]
abbrev Bds (w : World) (v : Value) (l : List Bd) : Prop := SlR w v 3 l.length (l.flatMap bdC)
def Rw (r : Bd) : Prop := (-9223372036854775808 ≤ r.1 ∧ r.1 ≤ 9223372036854775807) ∧ (-9223372036854775808 ≤ r.2.1 ∧ r.2.1 ≤ 9223372036854775807) ∧ (-9223372036854775808 ≤ r.2.2 ∧ r.2.2 ≤ 9223372036854775807)
theorem Bds.len {w : World} {x : Option Addr} {n cap : Nat} {l : List Bd} (h : Bds w (.slice x n cap) l) : n = l.length ∧ (l.length : Int) ≤ 9223372036854775807 := by
  obtain ⟨_, _, e, h1, h2⟩ := SlR.shape h
  simp only [Value.slice.injEq] at e
  unfold maxLen at h2
  omega
end Pm
namespace Go.Proofs.Ytchpkgneloiidaa
open Go.ChangeShapes Go.WideShapes Go.ChangeAt Go.RowKit Agg Pg Pm

theorem fo_Band_0 : Agg.fieldOff Try.prog 36 0 = some 0 := by kernel_rfl
theorem fo_Band_1 : Agg.fieldOff Try.prog 36 1 = some 1 := by kernel_rfl
theorem fo_Band_2 : Agg.fieldOff Try.prog 36 2 = some 2 := by kernel_rfl
theorem fo_Com_0 : Agg.fieldOff Try.prog 62 0 = some 0 := by kernel_rfl
theorem fo_Com_1 : Agg.fieldOff Try.prog 62 1 = some 2 := by kernel_rfl
theorem tiBd : TI Try.prog 22 36 3 24 (.agg #[.int .i64 0, .int .i64 0, .int .i64 0]) := ⟨by kernel_rfl, by kernel_rfl, rfl, by decide⟩
theorem back_any (v : Int) (q : Bool) (hq : backB v = q) (w : World) : Calls Try.prog 31 #[.int .i64 v] w fun e w' => e = .returned (.bool q) ∧ Below w.heap.size w w' := by
  unfold backB maxB at hq
  have HQ := Lib.hid hq
  clear hq
  have HB := Lib.hid (Below.refl w.heap.size w)
  go_enter Try.func31, Try.ntmps31
  by_cases h1 : v ≥ -2305844108725321728
  · by_cases h2 : v ≤ 2305844108725321728
    · have h := HQ.out
      rw [decide_eq_true (show -2305844108725321728 ≤ v from h1), decide_eq_true h2] at h
      subst h
      clear HQ
      go_wp2_with fail
      go_ret
      exact ⟨rfl, HB.out⟩
    · have h := HQ.out
      rw [decide_eq_false h2, Bool.and_false] at h
      subst h
      clear HQ
      go_wp2_with fail
      go_ret
      exact ⟨rfl, HB.out⟩
  · have h := HQ.out
    rw [decide_eq_false (show ¬ -2305844108725321728 ≤ v from h1), Bool.false_and] at h
    subst h
    clear HQ
    go_wp2_with fail
    go_ret
    exact ⟨rfl, HB.out⟩
/-- what is common to bands, in a variable -/
def comC (c : Spn × Bool) : List Value := [.int .i64 c.1.1, .int .i64 c.1.2, .bool c.2]
def tkB (c : Spn × Bool) (b : Bd) : Bool := (tk c b).isSome
def tkC (c : Spn × Bool) (b : Bd) : Spn × Bool := match tk c b with
  | some s => (s, true)
  | none => c
theorem tk_meet (c : Spn) (b : Bd) (hc : c.1 ≤ c.2) (hb : b.2.1 ≤ b.2.2) : tog meetF [c, (b.2.1, b.2.2)] = if max c.1 b.2.1 ≤ min c.2 b.2.2 then ((max c.1 b.2.1, min c.2 b.2.2), 0) else ((0, 0), 9) := by
  unfold tog
  rw [if_pos (by simp [okAll]; omega), if_neg (by simp)]
  rfl
theorem lit_two (a b c d : Int) (w : World) : (Instr.buildSlice 100 2 #[(0, .agg #[.int .i64 a, .int .i64 b]), (1, .agg #[.int .i64 c, .int .i64 d])]).run Try.prog w = .ok (.slice (some ⟨w.heap.size, 0, none⟩) 2 2) (w.alloc (.cells #[.int .i64 a, .int .i64 b, .int .i64 c, .int .i64 d] 26)) := by
  have h := run_buildRows tiS [[.int .i64 a, .int .i64 b], [.int .i64 c, .int .i64 d]] (by simp) (by simp) (by simp) w
  simpa using h
set_option maxHeartbeats 4000000 in
set_option maxRecDepth 100000 in
theorem takes_any (c : Spn × Bool) (b : Bd) (base g : Nat) (w : World) (hbg : base ≤ g) (hc : c.2 = true → c.1.1 ≤ c.1.2) (hb : b.2.1 ≤ b.2.2) (h : Blk w g 62 (comC c)) :
    Calls Try.prog 41 #[.pointer (some ⟨g, 0, none⟩), .agg (bdC b).toArray] w fun e w' => e = .returned (.bool (tkB c b)) ∧ Blk w' g 62 (comC (tkC c b)) ∧ Below base w w' := by
  obtain ⟨⟨c1, c2⟩, s⟩ := c
  obtain ⟨tt, lo, hi⟩ := b
  obtain ⟨r, hr⟩ : ∃ r, tkB ((c1, c2), s) (tt, lo, hi) = r := ⟨_, rfl⟩
  obtain ⟨r2, hr2⟩ : ∃ r, tkC ((c1, c2), s) (tt, lo, hi) = r := ⟨_, rfl⟩
  rw [hr, hr2]
  have HR := Lib.hid hr
  have HR2 := Lib.hid hr2
  have HG := Lib.hid h
  have HC := Lib.hid hc
  have HBG := Lib.hid hbg
  simp only at hb
  have HLH := Lib.hid hb
  have hgw := h.lt
  clear hr hr2 h hc hbg hb
  simp only [comC] at HG
  have HB := Lib.hid (Below.refl w.heap.size w)
  go_enter Try.func41, Try.ntmps41
  go_upto_region 1 with (fail)
  refine Agg.wp_at fun w1 hw1 => ?_
  have hb : Below w.heap.size w w1 := by rw [hw1.out]; repeat (first | exact Below.refl _ _ | refine Agg.bel_drew ?_ | refine Agg.bel_alloc ?_ _)
  replace HB := Lib.hid (HB.out.trans (hb.mono HB.out.size))
  replace HG := Lib.hid (HG.out.keep hb)
  clear hb
  have HX : Hid (Blk w1 w.heap.size 36 (bdC (tt, lo, hi))) := by show Blk _ _ _ _; rw [hw1.out]; exact Blk.new w 36 (bdC (tt, lo, hi)).toArray
  clear hw1
  have HGK := HG
  have HBK := HB
  have x1 := HX.out.cell 1
  have x2 := HX.out.cell 2
  simp only [bdC, List.getElem?_cons_succ, List.getElem?_cons_zero] at x1 x2
  go_upto_region 2 with (fail)
  clear x1 x2
  refine Agg.wp_at fun w2 hw2 => ?_
  have hb : Below w1.heap.size w1 w2 := by rw [hw2.out]; repeat (first | exact Below.refl _ _ | refine Agg.bel_drew ?_ | refine Agg.bel_alloc ?_ _)
  replace HB := Lib.hid (HB.out.trans (hb.mono HB.out.size))
  replace HG := Lib.hid (HG.out.keep hb)
  replace HX := Lib.hid (HX.out.keep hb)
  clear hb
  have HO : Hid (Blk w2 w1.heap.size 26 [.int .i64 lo, .int .i64 hi]) := by show Blk _ _ _ _; rw [hw2.out]; exact Blk.new w1 26 #[.int .i64 lo, .int .i64 hi]
  clear hw2
  have HGO : Hid (w1.heap.size ≠ g ∧ w.heap.size ≤ w1.heap.size) := Lib.hid (by have := HGK.out.lt; have := HBK.out.size; omega)
  generalize w1.heap.size = go at *
  clear HGK HBK HX
  cases s
  · have e1 : tk ((c1, c2), false) (tt, lo, hi) = some (lo, hi) := by simp [tk]
    have hr := HR.out
    have hr2 := HR2.out
    unfold tkB at hr
    unfold tkC at hr2
    rw [e1] at hr hr2
    simp only [Option.isSome_some] at hr hr2
    subst hr
    subst hr2
    have hg1 := HG.out
    have ho1 := HO.out
    have y2 := HG.out.cell 2
    simp only [List.getElem?_cons_succ, List.getElem?_cons_zero] at y2
    go_wp2_with (first
      | (refine Agg.gLoadB 2 ho1 rfl rfl rfl rfl (by decide +kernel) ?_; simp only [Act.put, List.setIfInBounds_toArray, List.set_cons_succ, List.set_cons_zero])
      | (refine Agg.gStoreMid 2 0 [.int .i64 lo, .int .i64 hi] hg1 rfl rfl rfl rfl rfl (by decide +kernel) rfl (by simp) (by simp [Value.oneCell']) (fun w12 hb12 hg12 => ?_); clear hg1 y2)
      | (refine Agg.gStoreCell 2 (.bool true) hb12 rfl rfl rfl rfl rfl (by kernel_rfl) rfl (by simp [spliced]) rfl (fun w13 hb13 hg13 => ?_); clear hb12))
    go_ret
    have e13 : spliced (spliced [.int .i64 c1, .int .i64 c2, .bool false] 0 [.int .i64 lo, .int .i64 hi]) 2 [.bool true] = [.int .i64 lo, .int .i64 hi, .bool true] := by simp [spliced]
    rw [e13] at hb13
    have hbw : base ≤ w.heap.size := Nat.le_trans HBG.out (Nat.le_of_lt hgw)
    have hb1 := (HB.out.mono hbw).trans (grown_below hg12 (Nat.le_trans hbw HB.out.size) (fun j hj => by cases hj; exact HBG.out))
    exact ⟨rfl, hb13, hb1.trans (grown_below hg13 (Nat.le_trans hbw hb1.size) (fun j hj => by cases hj; exact HBG.out))⟩
  · have e1 : tk ((c1, c2), true) (tt, lo, hi) = if max c1 lo ≤ min c2 hi then some (max c1 lo, min c2 hi) else none := by simp [tk]
    have hmt := tk_meet (c1, c2) (tt, lo, hi) (HC.out rfl) HLH.out
    simp only at hmt
    obtain ⟨m, hm⟩ : ∃ r, tog meetF [(c1, c2), (lo, hi)] = r := ⟨_, rfl⟩
    rw [hm] at hmt
    obtain ⟨⟨m1, m2⟩, er⟩ := m
    have HM := Lib.hid hm
    have HMT := Lib.hid hmt
    have hcs := HC.out rfl
    have HE1 := Lib.hid e1
    clear hm hmt e1
    have y0 := HG.out.cell 0
    have y1 := HG.out.cell 1
    have y2 := HG.out.cell 2
    simp only [List.getElem?_cons_succ, List.getElem?_cons_zero] at y0 y1 y2
    have HY0 : Hid (w2.cell? ⟨g, 0 + 0, none⟩ = some (.int .i64 c1)) := Lib.hid y0
    have HY1 : Hid (w2.cell? ⟨g, 0 + 0 + 1, none⟩ = some (.int .i64 c2)) := Lib.hid y1
    have HLIT := Lib.hid (fun W => lit_two c1 c2 lo hi W)
    clear y0 y1
    go_upto_region 3 with (fail)
    clear y2
    refine Agg.chainR 11 (by kernel_rfl) (by kernel_rfl) ?_
    simp only [List.take_succ_cons, List.take_zero, List.drop_succ_cons, List.drop_zero]
    refine Agg.chMove rfl rfl rfl rfl ?_
    refine Agg.chNil rfl rfl rfl rfl ?_
    refine Agg.chFA fo_Com_0 rfl rfl rfl rfl ?_
    refine Agg.chRow2 (by decide +kernel) rfl rfl rfl rfl HY0.out HY1.out ?_
    refine Agg.chRowB 2 HO.out rfl (by decide +kernel) rfl rfl rfl rfl ?_
    refine Agg.chBuildSlice (e := 26) #[.int .i64 c1, .int .i64 c2, .int .i64 lo, .int .i64 hi] rfl rfl rfl rfl (fun W => HLIT.out W) ?_
    refine Agg.chCall1 Try.func50 rfl (by kernel_rfl) (.tuple #[.agg #[.int .i64 m1, .int .i64 m2], .int .i64 er]) 5 rfl rfl rfl rfl rfl rfl (fun u W _ hg => Meet_any [(c1, c2), (lo, hi)] u W (hg.sl rfl (by decide)) (by simp) (m1, m2) er HM.out) ?_
    refine Agg.chMove rfl rfl rfl rfl ?_
    refine Agg.chExtract rfl rfl rfl rfl rfl ?_
    refine Agg.chExtract rfl rfl rfl rfl rfl ?_
    refine Agg.chAlloc #[.int .i64 0, .int .i64 0] rfl (by kernel_rfl) rfl rfl ?_
    refine Agg.chEnd ?_
    intro vs w3 hb hf
    simp only [List.reverse, List.reverseAux, Agg.Facts] at hf
    obtain ⟨_, ⟨gb, hv7, hbb, hblk⟩, _⟩ := hf
    simp only [List.reverse, List.reverseAux, Agg.fill, List.set_cons_succ, List.set_cons_zero, hv7]
    clear hv7
    refine Agg.tStore 2 hblk rfl rfl rfl rfl rfl (by decide +kernel) rfl rfl (by simp [Value.oneCell']) (fun w4 hblk2 hgr => ?_)
    replace HB := Lib.hid ((HB.out.trans (hb.mono HB.out.size)).trans (Agg.grown_below hgr (HB.out.trans (hb.mono HB.out.size)).size (fun k hk => by cases hk; exact Nat.le_trans HB.out.size hbb)))
    replace HG := Lib.hid ((HG.out.keep hb).grown hgr (Nat.ne_of_lt (Nat.lt_of_lt_of_le HG.out.lt hbb)))
    replace HO := Lib.hid ((HO.out.keep hb).grown hgr (Nat.ne_of_lt (Nat.lt_of_lt_of_le HO.out.lt hbb)))
    clear hgr hb hblk
    refine Agg.tAssign rfl rfl rfl ?_
    simp only [Agg.ev, List.getD_cons_zero, List.getD_cons_succ, List.set_cons_succ, List.set_cons_zero]
    refine Agg.wpNil ?_
    have hbw : base ≤ w.heap.size := Nat.le_trans HBG.out (Nat.le_of_lt hgw)
    have hr := HR.out
    have hr2 := HR2.out
    unfold tkB at hr
    unfold tkC at hr2
    rw [HE1.out] at hr hr2
    have hmt := HMT.out
    by_cases hm : max c1 lo ≤ min c2 hi
    · rw [if_pos hm] at hr hr2 hmt
      simp only [Option.isSome_some, Prod.mk.injEq] at hr hr2 hmt
      obtain ⟨⟨rfl, rfl⟩, rfl⟩ := hmt
      subst hr
      subst hr2
      have hg1 := HG.out
      have ho1 := HO.out
      have hgb2 := hblk2
      obtain ⟨m1, hm1⟩ : ∃ z, max c1 lo = z := ⟨_, rfl⟩
      obtain ⟨m2, hm2⟩ : ∃ z, min c2 hi = z := ⟨_, rfl⟩
      rw [hm1, hm2] at hgb2 ⊢
      have HMM := Lib.hid (And.intro hm1 hm2)
      clear hm1 hm2 hm HM HMT HC HLIT HY0 HY1 hblk2 HE1 HR HR2 hcs
      have HGO1 := Lib.hid HGO.out.1
      have HHB := HB
      have HHG := HG
      clear HB HG HO
      go_wp2_with (first
        | (refine Agg.gLoadB 2 hgb2 rfl rfl rfl rfl (by decide +kernel) ?_; simp only [Act.put, List.setIfInBounds_toArray, List.set_cons_succ, List.set_cons_zero]; clear hgb2)
        | (refine Agg.gStoreB 2 [.int .i64 m1, .int .i64 m2] ho1 rfl rfl rfl rfl rfl (by decide +kernel) rfl rfl (by simp [Value.oneCell']) (fun w11 hb11 hg11 => ?_); clear ho1)
        | (refine Agg.gLoadB 2 hb11 rfl rfl rfl rfl (by decide +kernel) ?_; simp only [Act.put, List.setIfInBounds_toArray, List.set_cons_succ, List.set_cons_zero]; clear hb11; have hg2 := hg1.far' hg11 (Ne.symm HGO1.out); clear hg1)
        | (refine Agg.gStoreMid 2 0 [.int .i64 m1, .int .i64 m2] hg2 rfl rfl rfl rfl rfl (by decide +kernel) rfl (by simp) (by simp [Value.oneCell']) (fun w12 hb12 hg12 => ?_); clear hg2)
        | (refine Agg.gStoreCell 2 (.bool true) hb12 rfl rfl rfl rfl rfl (by kernel_rfl) rfl (by simp [spliced]) rfl (fun w13 hb13 hg13 => ?_); clear hb12))
      go_ret
      have e13 : spliced (spliced [.int .i64 c1, .int .i64 c2, .bool true] 0 [.int .i64 m1, .int .i64 m2]) 2 [.bool true] = [.int .i64 m1, .int .i64 m2, .bool true] := by simp [spliced]
      rw [e13] at hb13
      have hb0 := HHB.out.mono hbw
      have hb1 := hb0.trans (grown_below hg11 (Nat.le_trans hbw hb0.size) (fun j hj => by cases hj; exact Nat.le_trans hbw HGO.out.2))
      have hb2 := hb1.trans (grown_below hg12 (Nat.le_trans hbw hb1.size) (fun j hj => by cases hj; exact HBG.out))
      have hb3 := hb2.trans (grown_below hg13 (Nat.le_trans hbw hb2.size) (fun j hj => by cases hj; exact HBG.out))
      obtain ⟨q1, q2⟩ := HMM.out
      subst q1
      subst q2
      exact ⟨rfl, hb13, hb3⟩
    · rw [if_neg hm] at hr hr2 hmt
      simp only [Option.isSome_none, Prod.mk.injEq] at hr hr2 hmt
      obtain ⟨⟨rfl, rfl⟩, rfl⟩ := hmt
      subst hr
      subst hr2
      have HHB := HB
      have HHG := HG
      clear HM HMT HC HLIT HY0 HY1 hblk2 HE1 HR HR2 hcs HG HO HB
      go_wp2_with fail
      go_ret
      exact ⟨rfl, HHG.out, HHB.out.mono hbw⟩
end Go.Proofs.Ytchpkgneloiidaa
end
section
/-
  WHAT AN ARGUMENT THAT CAN BE READ AS DATA HOLDS, cell by cell, whatever its type (of bools, integers, strings, structs, arrays, slices). Over any program.
-/
namespace Agg
open Go Go.RowKit Go.ChangeShapes Go.WideShapes Go.Deep

theorem okWide_array {P : Program} {w : World} {r : Reach} {base : Nat} {t : TypeId} {v : Value} {n : Nat} {e : TypeId} (ht : P.underlying t = some (.array n e)) (h : Value.okWide P w r base t v) : ∃ cs, v = .agg cs ∧ cs.size = P.cellsOf t := by
  simp only [Value.okWide, ht] at h
  obtain ⟨cs, h1, h2, _⟩ := h
  exact ⟨cs, h1, h2⟩
def Good (P : Program) (w : World) : Nat → TypeId → List Value → Prop
  | 0, _, _ => False
  | n + 1, t, cs =>
    match P.underlying t with
    | some .bool => ∃ b, cs = [.bool b]
    | some (.int k) => ∃ z : Int, cs = [.int k z] ∧ k.min ≤ z ∧ z ≤ k.max
    | some .string => ∃ s : ByteArray, cs = [.string s] ∧ s.size ≤ maxLen
    | some (.struct fs) => cs.length = P.cellsOf t ∧ ∀ (i : Nat) (f : Field), fs[i]? = some f → Good P w n f.type ((cs.drop f.offset).take (P.cellsOf f.type))
    | some (.array m e) => cs.length = P.cellsOf t ∧ ∀ i : Nat, i < m → Good P w n e ((cs.drop (i * P.cellsOf e)).take (P.cellsOf e))
    | some (.slice e) => cs = [.slice none 0 0] ∨ ∃ (a : Addr) (len cap : Nat), cs = [.slice (some a) len cap] ∧ len ≤ cap ∧ cap ≤ maxLen ∧
        ∀ i : Nat, i < len → ∃ cs' : List Value, cs'.length = P.cellsOf e ∧ (∀ j : Nat, j < P.cellsOf e → w.cell? (a.add (i * P.cellsOf e + j)) = cs'[j]?) ∧ Good P w n e cs'
    | _ => True

theorem good_of_trod {H : Type} {enc : TypeId × Value → H} {P : Program} {w : World} {base : Nat} {spare : Nat → Bool} {held : Bool} : ∀ (fuel : Nat) (t : TypeId) (cs : List Value) (x : DataW H × List MemPlace),
    DataW.trod enc P w base spare held fuel t cs = some x → Good P w fuel t cs
  | 0, _, _, _, h => by simp [DataW.trod] at h
  | n + 1, t, cs, x, h => by
    unfold Good
    split
    · rename_i ht; obtain ⟨b, hb, _⟩ := DataW.trod_bool ht h; exact ⟨b, hb⟩
    · rename_i k ht
      obtain ⟨z, hz, _, hw⟩ := DataW.trod_int ht h
      simp only [Lit.wf, Bool.and_eq_true, decide_eq_true_eq] at hw
      exact ⟨z, hz, hw⟩
    · rename_i ht; obtain ⟨s, hs, _, hm⟩ := DataW.trod_string ht h; exact ⟨s, hs, hm⟩
    · rename_i fs ht
      obtain ⟨xs, m, hm, _, hl, hxl, hf⟩ := DataW.trod_struct ht h
      obtain rfl : n = m := by omega
      refine ⟨hl, fun i f hi => ?_⟩
      have h1 := hf i f hi
      have hlt : i < xs.length := by rw [hxl]; exact (Array.getElem?_eq_some_iff.1 hi).1
      rw [List.getElem?_eq_getElem hlt] at h1
      exact good_of_trod n _ _ _ h1
    · rename_i m e ht
      obtain ⟨xs, m', hm, _, hl, hxl, hf⟩ := DataW.trod_array ht h
      obtain rfl : n = m' := by omega
      refine ⟨hl, fun i hi => ?_⟩
      have h1 := hf i hi
      have hlt : i < xs.length := by omega
      rw [List.getElem?_eq_getElem hlt] at h1
      exact good_of_trod n _ _ _ h1
    · rename_i e ht
      rcases DataW.trod_slice ht h with ⟨h0, _⟩ | ⟨a, len, cap, elems, rest, m, hm, hcs, _, _, hl, hcm, hlen, hel, _⟩
      · exact .inl h0
      · obtain rfl : n = m := by omega
        refine .inr ⟨a, len, cap, hcs, hl, hcm, fun i hi => ?_⟩
        have h1 := hel i hi
        rw [List.getElem?_eq_getElem (by omega)] at h1
        obtain ⟨cs', hc, ht'⟩ := Option.bind_eq_some_iff.1 h1
        obtain ⟨_, hcl, hat⟩ := World.cells?_some hc
        exact ⟨cs', hcl, fun j hj => by rw [← hat j hj, Go.Deep.add_add], good_of_trod n _ _ _ ht'⟩
    · trivial

/-- a slice of bytes that can be read -/
theorem good_bytes {P : Program} {w : World} {t e : TypeId} (ht : P.underlying t = some (.slice e)) (he : P.underlying e = some (.int .u8)) (hc : P.cellsOf e = 1) {fuel : Nat} {v : Value} (h : Good P w fuel t [v]) :
    ∃ l : List UInt8, Bytes w v l ∧ l.length ≤ maxLen := by
  cases fuel with
  | zero => exact h.elim
  | succ n =>
    unfold Good at h
    rw [ht] at h
    rcases h with h | ⟨a, len, cap, h, hl, hm, hcs⟩
    · simp only [List.cons.injEq, and_true] at h
      subst h
      exact ⟨[], SlR.nil _ _, Nat.zero_le _⟩
    · simp only [List.cons.injEq, and_true] at h
      subst h
      have key : ∀ i, i < len → ∃ c : UInt8, w.cell? (a.add i) = some (.int .u8 (c.toNat : Int)) := by
        intro i hi
        obtain ⟨cs', hcl, hat, hg⟩ := hcs i hi
        cases n with
        | zero => exact hg.elim
        | succ n =>
          unfold Good at hg
          rw [he] at hg
          obtain ⟨z, rfl, h0, h1⟩ := hg
          have := hat 0 (by omega)
          rw [hc, Nat.mul_one, Nat.add_zero] at this
          simp only [IntKind.min, IntKind.max, IntKind.signed, IntKind.bits] at h0 h1
          have h0' : 0 ≤ z := by simpa using h0
          have h1' : z ≤ 255 := by simpa using h1
          refine ⟨UInt8.ofNat z.toNat, ?_⟩
          rw [this]
          simp only [List.getElem?_cons_zero]
          congr 2
          rw [UInt8.toNat_ofNat']; omega
      have hch : ∃ f : Nat → UInt8, ∀ i, i < len → w.cell? (a.add i) = some (.int .u8 ((f i).toNat : Int)) :=
        ⟨fun i => if h : i < len then Classical.choose (key i h) else 0, fun i hi => by simp only [hi, dif_pos]; exact Classical.choose_spec (key i hi)⟩
      obtain ⟨f, hf⟩ := hch
      refine ⟨(List.range len).map f, ⟨by simp [bv_length], .inr ⟨a, cap, by simp, by simpa using hl, hm, fun i u hu => ?_⟩⟩, by simp; omega⟩
      have hi : i < len := by
        have := (List.getElem?_eq_some_iff.1 hu).1
        simpa [bv] using this
      rw [bv_get _ _ (by simpa using hi)] at hu
      simp only [List.getElem_map, List.getElem_range, Option.some.injEq] at hu
      subst hu
      exact hf i hi
/-- rows of bytes that can be read -/
theorem good_rows {P : Program} {w : World} {t s e : TypeId} (ht : P.underlying t = some (.slice s)) (hs : P.underlying s = some (.slice e)) (he : P.underlying e = some (.int .u8)) (hcs : P.cellsOf s = 1) (hc : P.cellsOf e = 1) {fuel : Nat} {v : Value} (h : Good P w fuel t [v]) :
    ∃ ls : List (List UInt8), Rows2 w v ls ∧ ∀ l ∈ ls, l.length ≤ maxLen := by
  cases fuel with
  | zero => exact h.elim
  | succ n =>
    unfold Good at h
    rw [ht] at h
    rcases h with h | ⟨a, len, cap, h, hl, hm, hel⟩
    · simp only [List.cons.injEq, and_true] at h
      subst h
      exact ⟨[], ⟨[], SlR.nil _ _, fun i l hl => by simp at hl⟩, fun l hl => by cases hl⟩
    · simp only [List.cons.injEq, and_true] at h
      subst h
      have key : ∀ i, i < len → ∃ x : Value × List UInt8, w.cell? (a.add i) = some x.1 ∧ Bytes w x.1 x.2 ∧ x.2.length ≤ maxLen := by
        intro i hi
        obtain ⟨cs', hcl, hat, hg⟩ := hel i hi
        rw [hcs] at hcl
        match cs', hcl with
        | [u], _ =>
          obtain ⟨l, hb, hlm⟩ := good_bytes hs he hc hg
          have := hat 0 (by omega)
          rw [hcs, Nat.mul_one, Nat.add_zero] at this
          exact ⟨(u, l), this, hb, hlm⟩
      have hch : ∃ f : Nat → Value × List UInt8, ∀ i, i < len → w.cell? (a.add i) = some (f i).1 ∧ Bytes w (f i).1 (f i).2 ∧ (f i).2.length ≤ maxLen :=
        ⟨fun i => if h : i < len then Classical.choose (key i h) else (.nilFunc, []), fun i hi => by simp only [hi, dif_pos]; exact Classical.choose_spec (key i hi)⟩
      obtain ⟨f, hf⟩ := hch
      refine ⟨(List.range len).map fun i => (f i).2, ⟨(List.range len).map fun i => (f i).1, ⟨by simp, .inr ⟨a, cap, by simp, by simpa using hl, hm, fun i u hu => ?_⟩⟩, fun i l hl' => ?_⟩, fun l hl' => ?_⟩
      · have hi : i < len := by have := (List.getElem?_eq_some_iff.1 hu).1; simpa using this
        simp only [List.getElem?_map, List.getElem?_range hi, Option.map_some, Option.some.injEq] at hu
        subst hu
        exact (hf i hi).1
      · have hi : i < len := by have := (List.getElem?_eq_some_iff.1 hl').1; simpa using this
        simp only [List.getElem?_map, List.getElem?_range hi, Option.map_some, Option.some.injEq] at hl' ⊢
        subst hl'
        exact ⟨_, rfl, (hf i hi).2.1⟩
      · obtain ⟨i, hi, rfl⟩ := List.mem_map.1 hl'
        exact (hf i (List.mem_range.1 hi)).2.2
end Agg
end
