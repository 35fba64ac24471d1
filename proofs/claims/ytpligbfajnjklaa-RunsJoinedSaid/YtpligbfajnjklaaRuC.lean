/-
  THE WALKS OF LAYER 7 (runs): wakes; own; rows of their own.
-/
import Derived.Test.YtpligbfajnjklaaRuA
import Derived.Test.YtpligbfajnjklaaChain3
import Derived.Test.YtpligbfajnjklaaGood2
import Derived.Test.YtpligbfajnjklaaOpen
section
namespace Go.Proofs.Ytpligbfajnjklaa
open Go.ChangeShapes Go.WideShapes Go.ChangeAt Go.RowKit Agg Pg Ru

def wT : List Int := [3, 5, 7, 20, 21, 50]
def wL : List Rn := [(3, 2, 3), (20, 1, 2), (50, 0, 1)]
theorem wT_rising : risingB wT = true := by decide
theorem wT_of : ofR wT = wL := by decide
theorem wL_find : findP wL 7 = (2, true) := by decide
theorem wL_clip : clipP wL 4 20 = (1, 4) := by decide
theorem wB_no : risesB [(3, 2, 2), (7, 0, 1)] = false := by decide
theorem lit_w3 (w : World) : (Instr.buildSlice 24 3 #[(0, .agg (ruC (3, 2, 3)).toArray), (1, .agg (ruC (20, 1, 2)).toArray), (2, .agg (ruC (50, 0, 1)).toArray)]).run Try.prog w = .ok (.slice (some ⟨w.heap.size, 0, none⟩) 3 3) (w.alloc (.cells (wL.flatMap ruC).toArray 31)) := by
  have h := run_buildRows ti24 [ruC (3, 2, 3), ruC (20, 1, 2), ruC (50, 0, 1)] (by simp [ruC]) (by simp) (by simp) w
  simpa [wL] using h
def wN : List Rn := [(3, 2, 2), (7, 0, 1)]
theorem lit_w2 (w : World) : (Instr.buildSlice 24 2 #[(0, .agg (ruC (3, 2, 2)).toArray), (1, .agg (ruC (7, 0, 1)).toArray)]).run Try.prog w = .ok (.slice (some ⟨w.heap.size, 0, none⟩) 2 2) (w.alloc (.cells (wN.flatMap ruC).toArray 31)) := by
  have h := run_buildRows ti24 [ruC (3, 2, 2), ruC (7, 0, 1)] (by simp [ruC]) (by simp) (by simp) w
  simpa [wN] using h
theorem rw_small (l : List Rn) (h : l.all fun r => decide (-1000 ≤ r.1) && decide (r.1 ≤ 1000) && decide (-1000 ≤ r.2.1) && decide (r.2.1 ≤ 1000) && decide (-1000 ≤ r.2.2) && decide (r.2.2 ≤ 1000)) : ∀ r ∈ l, Rw r := by
  intro r hr
  rw [List.all_eq_true] at h
  have := h r hr
  simp only [Bool.and_eq_true, decide_eq_true_eq] at this
  unfold Rw I64; omega
theorem own_rus {base : Nat} {w : World} {v : Value} {l : List Rn} (h : w.ownsRow base 31 3 v l.length (l.flatMap ruC)) : Rus w v l := ownSl h
theorem of_yes (l : List Int) (v : Value) (w : World) (hl : Tms w v l) (hr : risingB l = true) :
    Calls Try.prog 12 #[v] w fun e w' => ∃ u, e = .returned (.tuple #[u, .int .i64 0]) ∧ w'.ownsRow w.heap.size 31 3 u (ofR l).length ((ofR l).flatMap ruC) ∧ Below w.heap.size w w' := by
  refine (of_any l v w hl).mono ?_
  rintro e w' ⟨u, he, h1, h2⟩
  rw [hr] at he h1
  exact ⟨u, he, h1, h2⟩
theorem of_no (l : List Int) (v : Value) (w : World) (hl : Tms w v l) (hr : risingB l = false) :
    Calls Try.prog 12 #[v] w fun e w' => e = .returned (.tuple #[.slice none 0 0, .int .i64 2]) ∧ Below w.heap.size w w' := by
  refine (of_any l v w hl).mono ?_
  rintro e w' ⟨u, he, h1, h2⟩
  rw [hr] at he h1
  have : u = .slice none 0 0 := h1
  subst this
  exact ⟨he, h2⟩
set_option maxHeartbeats 2000000 in
set_option maxRecDepth 100000 in
theorem wakes_any (w : World) :
    Calls Try.prog 11 #[] w fun e w' => e = .returned (.bool true) ∧ Below w.heap.size w w' := by
  have HB := Lib.hid (Below.refl w.heap.size w)
  go_enter Try.func11, Try.ntmps11
  go_wp2_with fail
  refine Agg.calls_at fun w1 hw1 => ?_
  have hb : Below w.heap.size w w1 := by rw [hw1.out]; repeat (first | exact Below.refl _ _ | refine Agg.bel_drew ?_ | refine Agg.bel_alloc ?_ _)
  replace HB := Lib.hid (HB.out.trans (hb.mono HB.out.size))
  clear hb
  have HT : Hid (Tms w1 (.slice (some ⟨w.heap.size, 0, none⟩) 6 6) wT) := by
    show SlR _ _ _ _ _
    rw [hw1.out]; exact sl_new w #[.int .i64 3, .int .i64 5, .int .i64 7, .int .i64 20, .int .i64 21, .int .i64 50] 2 6 1 rfl (by decide)
  clear hw1
  refine (of_yes wT _ w1 HT.out wT_rising).mono ?_
  rintro e w2 ⟨u, rfl, hu, hb⟩
  replace HB := Lib.hid (HB.out.trans (hb.mono HB.out.size))
  clear hb
  rw [wT_of] at hu
  have HU := Lib.hid (own_rus hu)
  have HW : Hid (∀ r ∈ wL, Rw r) := Lib.hid (rw_small wL (by decide))
  obtain ⟨ux, uc, rfl, _, _⟩ := SlR.shape HU.out
  clear hu HT
  go_wp2_with fail
  refine (find_any wL _ 7 w2 ⟨by decide, by decide⟩ HU.out HW.out).mono ?_
  rintro e w3 ⟨rfl, hb⟩
  replace HB := Lib.hid (HB.out.trans (hb.mono HB.out.size))
  replace HU := Lib.hid (HU.out.keep hb)
  clear hb
  rw [wL_find]
  go_wp2_with fail
  refine (clip_any wL _ 4 20 w3 ⟨by decide, by decide⟩ ⟨by decide, by decide⟩ HU.out HW.out).mono ?_
  rintro e w4 ⟨rfl, hb⟩
  replace HB := Lib.hid (HB.out.trans (hb.mono HB.out.size))
  replace HU := Lib.hid (HU.out.keep hb)
  clear hb
  rw [wL_clip]
  go_upto_region 4 with (fail)
  refine Agg.listR 33 (by kernel_rfl) ?_
  simp only [List.take_succ_cons, List.take_zero, List.drop_succ_cons, List.drop_zero]
  refine Agg.chMove rfl rfl rfl rfl ?_
  refine Agg.chEq true (by decide) rfl rfl rfl rfl rfl ?_
  refine Agg.chMove rfl rfl rfl rfl ?_
  refine Agg.chMove rfl rfl rfl rfl ?_
  refine Agg.chBuild (v := .agg (ruC (3, 2, 3)).toArray) rfl rfl rfl rfl (fun W => build_run3 3 2 3 W) ?_
  refine Agg.chBuild (v := .agg (ruC (20, 1, 2)).toArray) rfl rfl rfl rfl (fun W => build_run3 20 1 2 W) ?_
  refine Agg.chBuild (v := .agg (ruC (50, 0, 1)).toArray) rfl rfl rfl rfl (fun W => build_run2 50 1 W) ?_
  refine Agg.chBuildSlice (e := 31) (wL.flatMap ruC).toArray rfl rfl rfl rfl (fun W => lit_w3 W) ?_
  refine Agg.chCall2 Try.func14 rfl (by kernel_rfl) (.bool true) 7 rfl rfl rfl rfl rfl rfl rfl (fun u W hb hu => equalR_any wL wL _ u W (SlR.keep HU.out hb) (NewSl.sl hu rfl (by decide)) HW.out HW.out true (by simp)) ?_
  refine Agg.chPick rfl rfl rfl rfl rfl ?_
  refine Agg.chMove rfl rfl rfl rfl ?_
  refine Agg.chMove rfl rfl rfl rfl ?_
  refine Agg.chEq true (by decide) rfl rfl rfl rfl rfl ?_
  refine Agg.chPick rfl rfl rfl rfl rfl ?_
  refine Agg.chMove rfl rfl rfl rfl ?_
  refine Agg.chMove rfl rfl rfl rfl ?_
  refine Agg.chPick rfl rfl rfl rfl rfl ?_
  refine Agg.chMove rfl rfl rfl rfl ?_
  refine Agg.chMove rfl rfl rfl rfl ?_
  refine Agg.chEq true (by decide) rfl rfl rfl rfl rfl ?_
  refine Agg.chPick rfl rfl rfl rfl rfl ?_
  refine Agg.chMove rfl rfl rfl rfl ?_
  refine Agg.chMove rfl rfl rfl rfl ?_
  refine Agg.chEq true (by decide) rfl rfl rfl rfl rfl ?_
  refine Agg.chPick rfl rfl rfl rfl rfl ?_
  refine Agg.chMove rfl rfl rfl rfl ?_
  refine Agg.chBuild (v := .agg (ruC (3, 2, 2)).toArray) rfl rfl rfl rfl (fun W => build_run3 3 2 2 W) ?_
  refine Agg.chBuild (v := .agg (ruC (7, 0, 1)).toArray) rfl rfl rfl rfl (fun W => build_run2 7 1 W) ?_
  refine Agg.chBuildSlice (e := 31) (wN.flatMap ruC).toArray rfl rfl rfl rfl (fun W => lit_w2 W) ?_
  refine Agg.chCall1 Try.func26 rfl (by kernel_rfl) (.int .i64 170) 28 rfl rfl rfl rfl rfl rfl (fun u W hb hu => by have h := check_any wN u W (NewSl.sl hu rfl (by decide)) (rw_small wN (by decide)); rw [show risesB wN = false from wB_no] at h; exact h) ?_
  refine Agg.chEq true (by decide) rfl rfl rfl rfl rfl ?_
  refine Agg.chPick rfl rfl rfl rfl rfl ?_
  refine Agg.chAssign rfl rfl rfl rfl ?_
  refine Agg.chEnd ?_
  intro vs w5 hb _
  show Exit.then _ _ Exit.normal _ _
  simp only [List.reverse, List.reverseAux, Agg.fill, List.set_cons_succ, List.set_cons_zero]
  replace HB := Lib.hid (HB.out.trans (hb.mono HB.out.size))
  replace HU := Lib.hid (HU.out.keep hb)
  clear hb
  go_wp2_with fail
  go_ret
  exact ⟨rfl, HB.out⟩
end Go.Proofs.Ytpligbfajnjklaa
end
section
/-
  THE WALK OF LAYER 7's STATEMENT RunsMakes.
-/
namespace Go.Proofs.Ytpligbfajnjklaa
open Go.ChangeShapes Go.WideShapes Go.ChangeAt Go.RowKit Agg Pg Ru

theorem tC_one (l : List Int) : ∀ v ∈ tC l, v.oneCell' = true := by
  intro v hv
  obtain ⟨z, _, rfl⟩ := List.mem_map.1 hv
  rfl
theorem sized_rw {r : Rn} (h : sized r = true) : Rw r := by
  have := (sized_iff r).1 h
  unfold maxT at this
  unfold Rw I64; omega
theorem ofR_rw {l : List Int} (h : risingB l = true) : ∀ r ∈ ofR l, Rw r := fun r hr => sized_rw (chain_sized _ ((rises_iff _).1 (rises_of h)).2.2.1 r hr).1
theorem tms_take {w : World} {x : Option Addr} {cap : Nat} {l : List Int} (h : Tms w (.slice x l.length cap) l) (k : Nat) (hk : k ≤ l.length) : Tms w (.slice x k cap) (l.take k) := by
  have := SlR.take h k hk
  rw [Nat.mul_one] at this
  show SlR _ _ _ _ _
  rw [List.length_take, Nat.min_eq_left hk, show tC (l.take k) = (tC l).take k from List.map_take]
  exact this
def RusV (l : List Rn) (v : Value) (w : World) : Prop := Rus w v l
theorem good_times {w : World} {fuel : Nat} {v : Value} (h : Agg.Good Try.prog w fuel 22 [v]) : ∃ l : List Int, Tms w v l ∧ ∀ z ∈ l, I64 z := by
  obtain ⟨l, h1, h2, h3⟩ := good_sl (α := Int) Try.underlying22 (sz := 1) (by kernel_rfl) (fun z => [.int .i64 z]) (fun z => (Lit.int .i64 z).wf = true) (fun _ => rfl) (fun fu cs hg => by
    have hf := good_fits fu 5 2 [some .i64] cs (by kernel_rfl) hg
    obtain ⟨x, r, rfl, ⟨a, rfl, ha⟩, hf2⟩ := hf.cons
    rw [hf2.nil]
    exact ⟨a, rfl, ha⟩) h
  refine ⟨l, ?_, fun z hz => ?_⟩
  · show SlR _ _ _ _ _
    rw [← tms_flat]; exact h1
  · have := h2 z hz
    simp [Lit.wf, IntKind.min, IntKind.max, IntKind.signed, IntKind.bits] at this
    unfold I64; omega
set_option maxHeartbeats 2000000 in
set_option maxRecDepth 100000 in
theorem makes_walk (l : List Int) (v : Value) (w : World) (hl : Tms w v l) (hi : ∀ z ∈ l, I64 z) :
    Calls Try.prog 3 #[v] w fun e w' => e = .returned (.bool true) ∧ Below w.heap.size w w' := by
  obtain ⟨x, cap, rfl, hc, hm⟩ := SlR.shape hl
  have hc3 : cap ≤ 9223372036854775807 := by unfold maxLen at hm; omega
  have HL := Lib.hid hl
  have HI := Lib.hid hi
  clear hl hi hm
  have HB := Lib.hid (Below.refl w.heap.size w)
  go_enter Try.func3, Try.ntmps3
  go_wp2_with fail
  refine (wakes_any w).mono ?_
  rintro e w1 ⟨rfl, hb⟩
  replace HB := Lib.hid (HB.out.trans (hb.mono HB.out.size))
  replace HL := Lib.hid (HL.out.keep hb)
  clear hb
  obtain ⟨m, hmd⟩ : ∃ m, m = min l.length 260 := ⟨_, rfl⟩
  have hm1 : m ≤ l.length := by omega
  have hm2 : m ≤ 260 := by omega
  have hme : min (l.length : Int) 260 = (m : Int) := by omega
  clear hmd
  have hs0 := tms_take HL.out m hm1
  have hle : (l.take m).length = m := by rw [List.length_take]; omega
  have HI2 : Hid (∀ z ∈ l.take m, I64 z) := Lib.hid (fun z hz => HI.out z (List.mem_of_mem_take hz))
  have HTK := Lib.hid (fun W (h : Tms W (.slice x l.length cap) l) => tms_take h m hm1)
  generalize l.take m = T at *
  have hmc : (m : Int) ≤ cap := by omega
  have hs := Lib.hid (SlR.keep hs0 ((Below.refl w1.heap.size w1).alloc (Nat.le_refl _) (.cells #[] 2)))
  have hown := Lib.hid (World.ownsRow_lit (e := 2) (size := 1) (base := w1.heap.size) w1 #[] 0 (Nat.le_refl _) (by decide) rfl)
  have HLE := Lib.hid hle
  clear hs0 hle
  have hs2 : SlR (w1.alloc (.cells #[] 2)) (.slice x m cap) 1 m (tC T) := by have h := hs.out; rw [HLE.out] at h; exact h
  clear hs
  have hb0 := HB.out.trans ((((Below.refl w1.heap.size w1).alloc (Nat.le_refl _) (.cells #[] 2))).mono HB.out.size)
  go_upto_region 4 with (first
    | (refine Agg.min2 _ _ _ (m : Int) rfl rfl rfl rfl hme ?_; simp only [Act.put, List.setIfInBounds_toArray, List.set_cons_succ, List.set_cons_zero])
    | (refine Agg.append ti22 _ _ rfl rfl w1.heap.size (v := .slice (some ⟨w1.heap.size, 0, none⟩) 0 0) rfl hown.out rfl hs2 (tC_one T) (by unfold maxLen; omega) (by omega) (by simp) ?_; intro v2 w3 ho hg hnil; simp only [Act.put, List.setIfInBounds_toArray, List.set_cons_succ, List.set_cons_zero]))
  have ho2 : w3.ownsRow w1.heap.size 2 1 v2 m (tC T) := by simpa using ho
  obtain ⟨vx, vc, rfl, _, _⟩ := (ownSl ho2).shape
  have hT3 : Tms w3 (.slice vx m vc) T := by
    have h := ownSl ho2
    show SlR _ _ _ _ _
    rw [HLE.out]; exact h
  have hbf : Below w1.heap.size w1 w3 := (((Below.refl w1.heap.size w1).alloc (Nat.le_refl _) (.cells #[] 2))).trans (grown_below hg (by simp) (fun j hj => by cases hj; exact Nat.le_refl _))
  have hl3 := SlR.keep HL.out hbf
  replace HB := Lib.hid (HB.out.trans (hbf.mono HB.out.size))
  clear HL hown hs2 hb0 ho hg hnil ho2 hbf
  have HL := Lib.hid hl3
  have HT := Lib.hid hT3
  clear hl3 hT3
  obtain ⟨rb, hrb⟩ : ∃ b, risingB T = b := ⟨_, rfl⟩
  have HRB := Lib.hid hrb
  clear hrb
  have hmv : (m : Int) ≤ vc := by obtain ⟨_, _, e, h1, h2⟩ := SlR.shape HT.out; cases e; rw [HLE.out] at h1; omega
  cases rb
  · go_wp2_with fail
    refine (of_no T _ w3 HT.out HRB.out).mono ?_
    rintro e w21 ⟨rfl, hb⟩
    replace HB := Lib.hid (HB.out.trans (hb.mono HB.out.size))
    replace HL := Lib.hid (HL.out.keep hb)
    replace HT := Lib.hid (HT.out.keep hb)
    clear hb
    go_wp2_with fail
    refine (rising_any T _ w21 HT.out).mono ?_
    rintro e w22 ⟨rfl, hb⟩
    replace HB := Lib.hid (HB.out.trans (hb.mono HB.out.size))
    replace HL := Lib.hid (HL.out.keep hb)
    replace HT := Lib.hid (HT.out.keep hb)
    clear hb
    rw [HRB.out]
    go_wp2_with fail
    go_ret
    exact ⟨rfl, HB.out⟩
  · have HUP := Lib.hid ((rising_iff T).1 HRB.out)
    go_wp2_with fail
    refine (of_yes T _ w3 HT.out HRB.out).mono ?_
    rintro e w23 ⟨u, rfl, hu, hb⟩
    replace HB := Lib.hid (HB.out.trans (hb.mono HB.out.size))
    replace HL := Lib.hid (HL.out.keep hb)
    replace HT := Lib.hid (HT.out.keep hb)
    clear hb
    have HU := Lib.hid (own_rus hu)
    obtain ⟨ux, uc, rfl, _, _⟩ := SlR.shape HU.out
    clear hu
    go_wp2_with fail
    refine (rising_any T _ w23 HT.out).mono ?_
    rintro e w24 ⟨rfl, hb⟩
    replace HB := Lib.hid (HB.out.trans (hb.mono HB.out.size))
    replace HL := Lib.hid (HL.out.keep hb)
    replace HT := Lib.hid (HT.out.keep hb)
    replace HU := Lib.hid (HU.out.keep hb)
    clear hb
    rw [HRB.out]
    go_wp2_with fail
    refine (rOf_any T _ w24 HT.out HUP.out.2.2 HUP.out.2.1).mono ?_
    rintro e w25 ⟨q, rfl, hq, hb⟩
    replace HB := Lib.hid (HB.out.trans (hb.mono HB.out.size))
    replace HL := Lib.hid (HL.out.keep hb)
    replace HT := Lib.hid (HT.out.keep hb)
    replace HU := Lib.hid (HU.out.keep hb)
    clear hb
    have HQ := Lib.hid (own_rus hq)
    obtain ⟨qx, qc, rfl, _, _⟩ := SlR.shape HQ.out
    clear hq
    go_wp2_with fail
    refine (equalR_any (ofR T) (ofR T) _ _ w25 HU.out HQ.out (ofR_rw HRB.out) (ofR_rw HRB.out) true (by simp)).mono ?_
    rintro e w26 ⟨rfl, hb⟩
    replace HB := Lib.hid (HB.out.trans (hb.mono HB.out.size))
    replace HL := Lib.hid (HL.out.keep hb)
    replace HT := Lib.hid (HT.out.keep hb)
    replace HU := Lib.hid (HU.out.keep hb)
    replace HQ := Lib.hid (HQ.out.keep hb)
    clear hb
    go_wp2_with fail
    refine (eqT_any T T _ _ w26 HT.out (HTK.out w26 HL.out) HI2.out HI2.out true (by simp)).mono ?_
    rintro e w27 ⟨rfl, hb⟩
    replace HB := Lib.hid (HB.out.trans (hb.mono HB.out.size))
    replace HL := Lib.hid (HL.out.keep hb)
    replace HT := Lib.hid (HT.out.keep hb)
    replace HU := Lib.hid (HU.out.keep hb)
    replace HQ := Lib.hid (HQ.out.keep hb)
    clear hb
    go_wp2_with fail
    go_ret
    exact ⟨rfl, HB.out⟩
theorem RunsMakes_walk (v : Value) (f : Nat) (w : World) (h : Agg.Good Try.prog w f 22 [v]) :
    Calls Try.prog 3 #[v] w fun e w' => e = .returned (.bool true) ∧ Below w.heap.size w w' := by
  obtain ⟨l, h1, h2⟩ := good_times h
  exact makes_walk l v w h1 h2
end Go.Proofs.Ytpligbfajnjklaa
end
