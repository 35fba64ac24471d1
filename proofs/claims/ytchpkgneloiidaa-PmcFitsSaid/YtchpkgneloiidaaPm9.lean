/-
  THE WALKS OF LAYER 8 (pmc): bands of ends; wakes.
-/
import Derived.Test.YtchpkgneloiidaaPm8
namespace Pm
def atN (E : List Int) (m : Nat) : List Bd := (List.range m).map fun k : Nat => ((k : Int), E.getD (2 * k) 0, E.getD (2 * k + 1) 0)
def atP (E : List Int) : List Bd := atN E (E.length / 2)
theorem atN_snoc (E : List Int) (m : Nat) : atN E (m + 1) = atN E m ++ [((m : Int), E.getD (2 * m) 0, E.getD (2 * m + 1) 0)] := by unfold atN; rw [List.range_succ, List.map_append]; rfl
theorem atN_len (E : List Int) (m : Nat) : (atN E m).length = m := by simp [atN]
end Pm
namespace Go.Proofs.Ytchpkgneloiidaa
open Go.ChangeShapes Go.WideShapes Go.ChangeAt Go.RowKit Agg Pg Pm
attribute [local go_sem] Oper.semAt_some

theorem ti78 : TI Try.prog 78 2 1 8 (.int .i64 0) := ⟨by kernel_rfl, by kernel_rfl, rfl, by decide⟩
theorem tms_at {w : World} {b o n cap : Nat} {l : List Int} (h : Tms w (.slice (some ⟨b, o, none⟩) n cap) l) {k : Nat} (hk : k < l.length) : w.cell? ⟨b, o + (k : Int).toNat * 1, none⟩ = some (.int .i64 l[k]) := by
  obtain ⟨b', o', cap', hve, _, _, hcm, _⟩ := SlR.pos h (by decide) (by omega)
  simp only [Value.slice.injEq] at hve
  obtain ⟨hve, _⟩ := hve
  cases hve
  rw [Int.toNat_natCast, Nat.mul_one]
  exact hcm k _ (by simp [tC, List.getElem?_eq_getElem hk])
theorem build_bd (t s c : Int) (w : World) : (Instr.build 36 #[(0, .int .i64 t), (1, .int .i64 s), (2, .int .i64 c)]).run Try.prog w = .ok (.agg (bdC (t, s, c)).toArray) w := by
  simp [go_sem, bdC]
theorem lit_bd (r : Bd) (w : World) : (Instr.buildSlice 22 1 #[(0, .agg (bdC r).toArray)]).run Try.prog w = .ok (.slice (some ⟨w.heap.size, 0, none⟩) 1 1) (w.alloc (.cells (bdC r).toArray 36)) := by
  have h := run_buildRows tiBd [bdC r] (by simp [bdC]) (by simp) (by simp) w
  simpa using h
theorem quo_two (k : Nat) (h : k ≤ 1000) : IntKind.i64.wrap ((2 * (k : Int)).tdiv 2) = (k : Int) := by
  rw [IntKind.wrap_i64, Int.tdiv_eq_ediv_of_nonneg (by omega)]
  omega
set_option maxHeartbeats 4000000 in
set_option maxRecDepth 100000 in
theorem at_any (E : List Int) (v : Value) (w : World) (hl : Tms w v E) (hE : E.length ≤ 100) :
    Calls Try.prog 26 #[v] w fun e w' => ∃ u, e = .returned u ∧ w'.ownsRow w.heap.size 36 3 u (atP E).length ((atP E).flatMap bdC) ∧ Below w.heap.size w w' := by
  obtain ⟨x, cap, rfl, _⟩ := SlR.shape hl
  have HL0 := Lib.hid hl
  obtain ⟨R, hR⟩ : ∃ R, atP E = R := ⟨_, rfl⟩
  have HR := Lib.hid hR
  rw [hR]
  clear hl hR
  have HB := Lib.hid (Below.refl w.heap.size w)
  go_enter Try.func26, Try.ntmps26
  go_wp2_with fail
  go_loopw [3, 4] (fun s3 s4 wr => ∃ k : Nat, 2 * k ≤ E.length ∧ s4 = .int .i64 (2 * (k : Int)) ∧ wr.ownsRow w.heap.size 36 3 s3 k ((atN E k).flatMap bdC) ∧ Below w.heap.size w wr) (fun _ s4 _ => E.length + 2 - (intOf s4).toNat)
  case atStart => exact ⟨0, by omega, rfl, World.ownsRow_nil _ _ _ _, HB.out⟩
  case round =>
    obtain ⟨k, hk, rfl, ho, hb⟩ := hrel
    have HO := Lib.hid ho
    replace HB := Lib.hid hb
    have HL := Lib.hid (SlR.keep HL0.out hb)
    obtain ⟨ux, uc, rfl, _, _⟩ := (ownSl ho).shape
    clear ho hb
    obtain ⟨wA, hwA⟩ : ∃ x, x = wr := ⟨_, rfl⟩
    subst hwA
    by_cases hlt : 2 * k + 1 < E.length
    · have hsn := atN_snoc E k
      obtain ⟨b, o, cap', hve, _, _, _, _⟩ := SlR.pos HL.out (by decide) (by omega)
      simp only [Value.slice.injEq, true_and] at hve
      obtain ⟨rfl, rfl⟩ := hve
      have hc0 := tms_at HL.out (k := 2 * k) (by omega)
      have hc1 := tms_at HL.out (k := 2 * k + 1) hlt
      rw [List.getD_eq_getElem?_getD, List.getD_eq_getElem?_getD, List.getElem?_eq_getElem hlt, List.getElem?_eq_getElem (show 2 * k < E.length by omega)] at hsn
      simp only [Option.getD_some] at hsn
      obtain ⟨lo, hlo⟩ : ∃ z, E[2 * k]'(by omega) = z := ⟨_, rfl⟩
      obtain ⟨hi, hhi⟩ : ∃ z, E[2 * k + 1]'hlt = z := ⟨_, rfl⟩
      rw [hlo] at hc0 hsn
      rw [hhi] at hc1 hsn
      have HC0 : Hid (wA.cell? ⟨b, o + (2 * (k : Int)).toNat * 1, none⟩ = some (.int .i64 lo)) := Lib.hid (by rw [show (2 * (k : Int)).toNat = ((2 * k : Nat) : Int).toNat by omega]; exact hc0)
      have HC1 : Hid (wA.cell? ⟨b, o + (2 * (k : Int) + 1).toNat * 1, none⟩ = some (.int .i64 hi)) := Lib.hid (by rw [show (2 * (k : Int) + 1).toNat = ((2 * k + 1 : Nat) : Int).toNat by omega]; exact hc1)
      have HSN := Lib.hid hsn
      clear hc0 hc1 hsn hlo hhi
      go_upto_region 5 with (fail)
      refine Agg.chainR 14 (by kernel_rfl) (by kernel_rfl) ?_
      simp only [List.take_succ_cons, List.take_zero, List.drop_succ_cons, List.drop_zero]
      refine Agg.chMove rfl rfl rfl rfl ?_
      refine Agg.chMove rfl rfl rfl rfl ?_
      refine Agg.chQuo (k : Int) rfl rfl rfl (by decide) (quo_two k (by omega)) rfl rfl ?_
      refine Agg.chMove rfl rfl rfl rfl ?_
      refine Agg.chMove rfl rfl rfl rfl ?_
      refine Agg.chIA ti78 (by omega) (by omega) rfl rfl rfl rfl rfl ?_
      refine Agg.chLoad rfl rfl rfl rfl (by decide +kernel) HC0.out ?_
      refine Agg.chMove rfl rfl rfl rfl ?_
      refine Agg.chMove rfl rfl rfl rfl ?_
      refine Agg.chAr64 rfl rfl rfl rfl (by omega) (by omega) rfl rfl ?_
      refine Agg.chIA ti78 (by omega) (by omega) rfl rfl rfl rfl rfl ?_
      refine Agg.chLoad rfl rfl rfl rfl (by decide +kernel) HC1.out ?_
      refine Agg.chBuild (v := .agg (bdC ((k : Int), lo, hi)).toArray) rfl rfl rfl rfl (fun W => build_bd k lo hi W) ?_
      refine Agg.chBuildSlice (e := 36) (bdC ((k : Int), lo, hi)).toArray rfl rfl rfl rfl (fun W => lit_bd ((k : Int), lo, hi) W) ?_
      refine Agg.chEnd ?_
      intro vs w21 hb hf
      simp only [List.reverse, List.reverseAux, Agg.Facts] at hf
      obtain ⟨⟨g9, hv9, hb9, hk9⟩, _⟩ := hf
      simp only [List.reverse, List.reverseAux, Agg.fill, List.set_cons_succ, List.set_cons_zero, hv9]
      clear hv9
      have hC3 := own_keep HO.out hb
      have hsl : SlR w21 (.slice (some ⟨g9, 0, none⟩) 1 1) 3 1 (bdC ((k : Int), lo, hi)) := NewSl.sl (b0 := wA.heap.size) (e := 36) ⟨g9, rfl, hb9, hk9⟩ rfl (by unfold maxLen; decide)
      have HB3 := Lib.hid (HB.out.trans (hb.mono HB.out.size))
      clear hb9 hk9 hb
      refine Agg.append tiBd (.tmp 12) (.tmp 25) rfl rfl w.heap.size (v := .slice ux k uc) rfl hC3 rfl hsl (by simp [bdC, Value.oneCell']) (by unfold maxLen; omega) (by omega) HB3.out.size ?_
      intro v' w4 hC4 hg4 _
      simp only [Act.put, List.setIfInBounds_toArray, List.set_cons_succ, List.set_cons_zero]
      have hB4 := HB3.out.trans (grown_below hg4 HB3.out.size (own_block hC3))
      clear hg4 hC3 hsl
      go_wp2_with fail
      refine Agg.noP ?_
      go_wp2_with fail
      refine ⟨⟨k + 1, by omega, by congr 1, ?_, hB4⟩, by simp [intOf]; omega⟩
      rw [HSN.out, List.flatMap_append]
      simpa using hC4
    · have hk2 : k = E.length / 2 := by omega
      have HO2 : Hid (wA.ownsRow w.heap.size 36 3 (.slice ux k uc) R.length (R.flatMap bdC)) := Lib.hid (by
        rw [← HR.out, atP, atN_len, ← hk2]; exact HO.out)
      clear HO hk2
      go_wp2_with fail
      go_ret
      exact ⟨_, rfl, HO2.out, HB.out⟩
def wE1 : List Int := [1, 5, 3, 9, 4, 4]
def wE2 : List Int := [1, 5, 2, 9]
def wE3 : List Int := [1, 2, 3, 4]
def wE4 : List Int := [1, 3, 2, 5, 4, 6, 5, 9, 0, 0]
def wE5 : List Int := [1, 3, 2, 5, 4, 6]
def wE6 : List Int := [2, 1]
theorem wk1 : commonP (atP wE1) = ((4, 4), 0) := by decide
theorem wk2 : fitP (atP wE2) = (3, 0) := by decide
theorem wk2c : commonP (atP wE2) = ((2, 5), 0) := by decide
theorem wk3 : fitP (atP wE3) = (0, 181) := by decide
theorem wk3c : (commonP (atP wE3)).2 = 181 := by decide
theorem wk4 : cut (atP wE4) = [2, 2, 1] ∧ checkB (atP wE4) = true := by decide
theorem wk5 : longP (atP wE5) = (2, 0) := by decide
theorem wk6 : checkB (atP wE6) = false := by decide
def ksSp : List (Option IntKind) := [some .i64, some .i64]
theorem flatSp : Flat Try.prog 3 26 ksSp := ⟨by kernel_rfl, by kernel_rfl, by kernel_rfl, by kernel_rfl, by decide, by kernel_rfl⟩
theorem sp_eql (a b c d : Int) (ha : I64 a ∧ I64 b) (hc : I64 c ∧ I64 d) (r : Bool) (hr : decide ((a, b) = (c, d)) = r) (w : World) : (binOp .eql 26 (.agg #[.int .i64 a, .int .i64 b]) (.agg #[.int .i64 c, .int .i64 d])).run Try.prog w = .ok (.bool r) w :=
  flatSp.eql (xs := [.int .i64 a, .int .i64 b]) (ys := [.int .i64 c, .int .i64 d]) ⟨⟨_, rfl, wf_i64 ha.1⟩, ⟨_, rfl, wf_i64 ha.2⟩, trivial⟩ ⟨⟨_, rfl, wf_i64 hc.1⟩, ⟨_, rfl, wf_i64 hc.2⟩, trivial⟩ r (by rw [← hr, decide_eq_true_eq]; simp) w
/-- a row of ends that was laid last -/
theorem ends_new {w : World} {E : List Int} {n : Nat} (hn : E.length = n) (hm : n ≤ 1000) : Tms (w.alloc (.cells (tC E).toArray 2)) (.slice (some ⟨w.heap.size, 0, none⟩) n n) E := by
  subst hn
  have h := sl_new w (tC E).toArray 2 E.length 1 (by simp [tC]) (by unfold maxLen; omega)
  simpa using h
def BdsV (l : List Bd) (v : Value) (w : World) : Prop := Bds w v l
theorem BdsV.stable (l : List Bd) : Stable (BdsV l) := fun _ _ _ h hb => SlR.keep h hb
theorem at_op (E : List Int) (v : Value) (w : World) (hl : Tms w v E) (hE : E.length ≤ 100) :
    Calls Try.prog 26 #[v] w fun e w' => ∃ u, e = .returned u ∧ (R.op (BdsV (atP E))).holds u w' ∧ Below w.heap.size w w' := by
  refine (at_any E v w hl hE).mono ?_
  rintro e w' ⟨u, rfl, h1, h2⟩
  exact ⟨u, rfl, own_bds h1, h2⟩
set_option maxHeartbeats 4000000 in
set_option maxRecDepth 100000 in
theorem wakes_any (w : World) :
    Calls Try.prog 10 #[] w fun e w' => e = .returned (.bool true) ∧ Below w.heap.size w w' := by
  have HB := Lib.hid (Below.refl w.heap.size w)
  go_enter Try.func10, Try.ntmps10
  go_wp2_with fail
  refine Agg.calls_at fun w1 hw1 => ?_
  have hb : Below w.heap.size w w1 := by rw [hw1.out]; repeat (first | exact Below.refl _ _ | refine Agg.bel_drew ?_ | refine Agg.bel_alloc ?_ _)
  replace HB := Lib.hid (HB.out.trans (hb.mono HB.out.size))
  clear hb
  have HT : Hid (Tms w1 (.slice (some ⟨w.heap.size, 0, none⟩) 6 6) wE1) := by show SlR _ _ _ _ _; rw [hw1.out]; exact ends_new (w := w) (E := wE1) rfl (by decide)
  clear hw1
  refine (at_any wE1 _ w1 HT.out (by decide)).mono ?_
  rintro e w2 ⟨u1, rfl, hu1, hb⟩
  replace HB := Lib.hid (HB.out.trans (hb.mono HB.out.size))
  replace HT := Lib.hid (HT.out.keep hb)
  clear hb
  have HU := Lib.hid (own_bds hu1)
  obtain ⟨ux, uc, rfl, _, _⟩ := SlR.shape HU.out
  clear hu1
  go_wp2_with fail
  refine (common_any (atP wE1) _ w2 HU.out (4, 4) 0 wk1).mono ?_
  rintro e w3 ⟨rfl, hb⟩
  replace HB := Lib.hid (HB.out.trans (hb.mono HB.out.size))
  replace HU := Lib.hid (HU.out.keep hb)
  clear hb
  clear HU HT
  go_upto_region 2 with (first
    | (refine Agg.allocRow 26 #[.int .i64 0, .int .i64 0] rfl rfl (by kernel_rfl) ?_; simp only [Act.put, List.setIfInBounds_toArray, List.set_cons_succ, List.set_cons_zero])
    | (refine Agg.gStoreNew 2 [.int .i64 4, .int .i64 4] rfl rfl rfl rfl rfl rfl (by decide +kernel) rfl rfl rfl ?_; simp only [Act.put]))
  refine Agg.wp_at fun w4 hw4 => ?_
  have hb : Below w3.heap.size w3 w4 := by rw [hw4.out]; repeat (first | exact Below.refl _ _ | refine Agg.bel_drew ?_ | refine Agg.bel_alloc ?_ _)
  replace HB := Lib.hid (HB.out.trans (hb.mono HB.out.size))
  clear hb
  have HX : Hid (Blk w4 w3.heap.size 26 [.int .i64 4, .int .i64 4]) := by show Blk _ _ _ _; rw [hw4.out]; exact Blk.new w3 26 #[.int .i64 4, .int .i64 4]
  clear hw4
  generalize w3.heap.size = gx at *
  go_wp2_with fail
  refine Agg.calls_at fun w5 hw5 => ?_
  have hb : Below w4.heap.size w4 w5 := by rw [hw5.out]; repeat (first | exact Below.refl _ _ | refine Agg.bel_drew ?_ | refine Agg.bel_alloc ?_ _)
  replace HB := Lib.hid (HB.out.trans (hb.mono HB.out.size))
  replace HX := Lib.hid (HX.out.keep hb)
  clear hb
  have HT : Hid (Tms w5 (.slice (some ⟨w4.heap.size, 0, none⟩) 4 4) wE2) := by show SlR _ _ _ _ _; rw [hw5.out]; exact ends_new (w := w4) (E := wE2) rfl (by decide)
  clear hw5
  refine (at_any wE2 _ w5 HT.out (by decide)).mono ?_
  rintro e w6 ⟨u1, rfl, hu1, hb⟩
  replace HB := Lib.hid (HB.out.trans (hb.mono HB.out.size))
  replace HX := Lib.hid (HX.out.keep hb)
  replace HT := Lib.hid (HT.out.keep hb)
  clear hb
  have HU := Lib.hid (own_bds hu1)
  obtain ⟨ux, uc, rfl, _, _⟩ := SlR.shape HU.out
  clear hu1
  go_wp2_with fail
  refine (fit_any (atP wE2) _ w6 HU.out (by rw [wk2c]; unfold I64; decide) 3 0 wk2).mono ?_
  rintro e w7 ⟨rfl, hb⟩
  replace HB := Lib.hid (HB.out.trans (hb.mono HB.out.size))
  replace HX := Lib.hid (HX.out.keep hb)
  replace HU := Lib.hid (HU.out.keep hb)
  clear hb
  clear HU HT
  go_wp2_with fail
  refine Agg.calls_at fun w8 hw8 => ?_
  have hb : Below w7.heap.size w7 w8 := by rw [hw8.out]; repeat (first | exact Below.refl _ _ | refine Agg.bel_drew ?_ | refine Agg.bel_alloc ?_ _)
  replace HB := Lib.hid (HB.out.trans (hb.mono HB.out.size))
  replace HX := Lib.hid (HX.out.keep hb)
  clear hb
  have HT : Hid (Tms w8 (.slice (some ⟨w7.heap.size, 0, none⟩) 4 4) wE3) := by show SlR _ _ _ _ _; rw [hw8.out]; exact ends_new (w := w7) (E := wE3) rfl (by decide)
  clear hw8
  refine (at_any wE3 _ w8 HT.out (by decide)).mono ?_
  rintro e w9 ⟨u1, rfl, hu1, hb⟩
  replace HB := Lib.hid (HB.out.trans (hb.mono HB.out.size))
  replace HX := Lib.hid (HX.out.keep hb)
  replace HT := Lib.hid (HT.out.keep hb)
  clear hb
  have HU := Lib.hid (own_bds hu1)
  obtain ⟨ux, uc, rfl, _, _⟩ := SlR.shape HU.out
  clear hu1
  go_wp2_with fail
  refine (fit_any (atP wE3) _ w9 HU.out (by rw [wk3c]; intro h; cases h) 0 181 wk3).mono ?_
  rintro e w10 ⟨rfl, hb⟩
  replace HB := Lib.hid (HB.out.trans (hb.mono HB.out.size))
  replace HX := Lib.hid (HX.out.keep hb)
  replace HU := Lib.hid (HU.out.keep hb)
  clear hb
  clear HU HT
  go_wp2_with fail
  refine Agg.calls_at fun w11 hw11 => ?_
  have hb : Below w10.heap.size w10 w11 := by rw [hw11.out]; repeat (first | exact Below.refl _ _ | refine Agg.bel_drew ?_ | refine Agg.bel_alloc ?_ _)
  replace HB := Lib.hid (HB.out.trans (hb.mono HB.out.size))
  replace HX := Lib.hid (HX.out.keep hb)
  clear hb
  have HT : Hid (Tms w11 (.slice (some ⟨w10.heap.size, 0, none⟩) 10 10) wE4) := by show SlR _ _ _ _ _; rw [hw11.out]; exact ends_new (w := w10) (E := wE4) rfl (by decide)
  clear hw11
  refine (at_any wE4 _ w11 HT.out (by decide)).mono ?_
  rintro e w12 ⟨u1, rfl, hu1, hb⟩
  replace HB := Lib.hid (HB.out.trans (hb.mono HB.out.size))
  replace HX := Lib.hid (HX.out.keep hb)
  replace HT := Lib.hid (HT.out.keep hb)
  clear hb
  have HU := Lib.hid (own_bds hu1)
  obtain ⟨ux, uc, rfl, _, _⟩ := SlR.shape HU.out
  clear hu1
  go_wp2_with fail
  refine (cut_any (atP wE4) _ w12 HU.out true wk4.2).mono ?_
  rintro e w13 ⟨c9, rfl, hc9, hb⟩
  replace HB := Lib.hid (HB.out.trans (hb.mono HB.out.size))
  replace HX := Lib.hid (HX.out.keep hb)
  replace HU := Lib.hid (HU.out.keep hb)
  clear hb
  have hc9' := ownSl (CutV.yes.1 hc9)
  rw [wk4.1] at hc9'
  have HC9 : Hid (Tms w13 c9 [2, 2, 1]) := Lib.hid hc9'
  obtain ⟨c9x, c9c, rfl, _, _⟩ := SlR.shape HC9.out
  clear HU HT hc9 hc9'
  go_wp2_with fail
  refine Agg.calls_at fun w14 hw14 => ?_
  have hb : Below w13.heap.size w13 w14 := by rw [hw14.out]; repeat (first | exact Below.refl _ _ | refine Agg.bel_drew ?_ | refine Agg.bel_alloc ?_ _)
  replace HB := Lib.hid (HB.out.trans (hb.mono HB.out.size))
  replace HX := Lib.hid (HX.out.keep hb)
  replace HC9 := Lib.hid (HC9.out.keep hb)
  clear hb
  have HT : Hid (Tms w14 (.slice (some ⟨w13.heap.size, 0, none⟩) 6 6) wE5) := by show SlR _ _ _ _ _; rw [hw14.out]; exact ends_new (w := w13) (E := wE5) rfl (by decide)
  clear hw14
  refine (at_any wE5 _ w14 HT.out (by decide)).mono ?_
  rintro e w15 ⟨u1, rfl, hu1, hb⟩
  replace HB := Lib.hid (HB.out.trans (hb.mono HB.out.size))
  replace HX := Lib.hid (HX.out.keep hb)
  replace HC9 := Lib.hid (HC9.out.keep hb)
  replace HT := Lib.hid (HT.out.keep hb)
  clear hb
  have HU := Lib.hid (own_bds hu1)
  obtain ⟨ux, uc, rfl, _, _⟩ := SlR.shape HU.out
  clear hu1
  go_wp2_with fail
  refine (longestX_any (atP wE5) _ w15 HU.out 2 0 wk5).mono ?_
  rintro e w16 ⟨rfl, hb⟩
  replace HB := Lib.hid (HB.out.trans (hb.mono HB.out.size))
  replace HX := Lib.hid (HX.out.keep hb)
  replace HC9 := Lib.hid (HC9.out.keep hb)
  replace HU := Lib.hid (HU.out.keep hb)
  clear hb
  clear HU HT
  have hcv : Hid (∀ w, (Instr.build 26 #[(0, .int .i64 4), (1, .int .i64 4)]).run Try.prog w = .ok (.agg #[.int .i64 4, .int .i64 4]) w) := Lib.hid (fun w => by simp [go_sem])
  go_upto_region 6 with (fail)
  refine Agg.listR 43 (by kernel_rfl) ?_
  simp only [List.take_succ_cons, List.take_zero, List.drop_succ_cons, List.drop_zero]
  refine Agg.chMove rfl rfl rfl rfl ?_
  refine Agg.chEq true (by decide) rfl rfl rfl rfl rfl ?_
  refine Agg.chMove rfl rfl rfl rfl ?_
  refine Agg.chMove rfl rfl rfl rfl ?_
  refine Agg.chEq true (by decide) rfl rfl rfl rfl rfl ?_
  refine Agg.chPick rfl rfl rfl rfl rfl ?_
  refine Agg.chMove rfl rfl rfl rfl ?_
  refine Agg.chMove rfl rfl rfl rfl ?_
  refine Agg.chEq true (by decide) rfl rfl rfl rfl rfl ?_
  refine Agg.chPick rfl rfl rfl rfl rfl ?_
  refine Agg.chMove rfl rfl rfl rfl ?_
  refine Agg.chMove rfl rfl rfl rfl ?_
  refine Agg.chEq true (by decide) rfl rfl rfl rfl rfl ?_
  refine Agg.chPick rfl rfl rfl rfl rfl ?_
  refine Agg.chMove rfl rfl rfl rfl ?_
  refine Agg.chMove rfl rfl rfl rfl ?_
  refine Agg.chEq true (by decide) rfl rfl rfl rfl rfl ?_
  refine Agg.chPick rfl rfl rfl rfl rfl ?_
  refine Agg.chMove rfl rfl rfl rfl ?_
  refine Agg.chRowB 2 HX.out rfl (by decide +kernel) rfl rfl rfl rfl ?_
  refine Agg.chBuild (v := .agg #[.int .i64 4, .int .i64 4]) rfl rfl rfl rfl (fun W => hcv.out W) ?_
  refine Agg.chBin (v := .bool true) rfl rfl rfl rfl rfl (fun w => flatSp.gd .eql _ _ _ _ w) (fun w => sp_eql 4 4 4 4 (by unfold I64; decide) (by unfold I64; decide) true (by decide) w) ?_
  refine Agg.chPick rfl rfl rfl rfl rfl ?_
  refine Agg.chMove rfl rfl rfl rfl ?_
  refine Agg.chMove rfl rfl rfl rfl ?_
  refine Agg.chEq true (by decide) rfl rfl rfl rfl rfl ?_
  refine Agg.chPick rfl rfl rfl rfl rfl ?_
  refine Agg.chMove rfl rfl rfl rfl ?_
  refine Agg.chMove rfl rfl rfl rfl ?_
  refine Agg.chBuildSlice (e := 3) #[.int .i64 2, .int .i64 2, .int .i64 1] rfl rfl rfl rfl (fun _ => by kernel_rfl) ?_
  refine Agg.chCall2 Try.func22 rfl (by kernel_rfl) (.bool true) 29 rfl rfl rfl rfl rfl rfl rfl (fun u W hb hu => eqI_any [2, 2, 1] [2, 2, 1] _ u W (SlR.keep HC9.out hb) (NewSl.sl (sz := 1) hu rfl (by decide)) (by unfold I64; decide) (by unfold I64; decide) true (by decide)) ?_
  refine Agg.chPick rfl rfl rfl rfl rfl ?_
  refine Agg.chMove rfl rfl rfl rfl ?_
  refine Agg.chMove rfl rfl rfl rfl ?_
  refine Agg.chEq true (by decide) rfl rfl rfl rfl rfl ?_
  refine Agg.chPick rfl rfl rfl rfl rfl ?_
  refine Agg.chMove rfl rfl rfl rfl ?_
  refine Agg.chBuildSlice (e := 2) #[.int .i64 2, .int .i64 1] rfl rfl rfl rfl (fun _ => by kernel_rfl) ?_
  refine Agg.chCall_o Try.func26 rfl (by kernel_rfl) (.op (BdsV (atP wE6))) (BdsV.stable _) 37 rfl rfl rfl rfl rfl rfl (fun u W hb hu => at_op wE6 u W (NewSl.sl (sz := 1) hu rfl (by decide)) (by decide)) ?_
  refine Agg.chCall1 Try.func15 rfl (by kernel_rfl) (.int .i64 180) 38 rfl rfl rfl rfl rfl rfl (fun u W hb hu => chkB_any (atP wE6) u W hu false wk6) ?_
  refine Agg.chEq true (by decide) rfl rfl rfl rfl rfl ?_
  refine Agg.chPick rfl rfl rfl rfl rfl ?_
  refine Agg.chAssign rfl rfl rfl rfl ?_
  refine Agg.chEnd ?_
  intro vs w17 hb _
  show Exit.then _ _ Exit.normal _ _
  simp only [List.reverse, List.reverseAux, Agg.fill, List.set_cons_succ, List.set_cons_zero]
  replace HB := Lib.hid (HB.out.trans (hb.mono HB.out.size))
  replace HX := Lib.hid (HX.out.keep hb)
  replace HC9 := Lib.hid (HC9.out.keep hb)
  clear hb
  go_wp2_with fail
  go_ret
  exact ⟨rfl, HB.out⟩
end Go.Proofs.Ytchpkgneloiidaa
