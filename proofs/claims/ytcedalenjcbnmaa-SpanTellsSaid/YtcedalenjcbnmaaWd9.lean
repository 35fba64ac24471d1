/-
  THE DOCUMENT's NUMBERS (layer 1): Sub, Fits, word, Value.
-/
import Derived.Test.YtcedalenjcbnmaaWd8
namespace Go.Proofs.Ytcedalenjcbnmaa
open Go.ChangeShapes Go.WideShapes Go.ChangeAt Go.RowKit Agg Wd

set_option maxHeartbeats 4000000 in
set_option maxRecDepth 100000 in
theorem Sub_any (a b : Int) (ha : (digs a.natAbs).length ≤ 500) (hb : (digs b.natAbs).length ≤ 500) (u v : Value) (w : World) (hu : NumV a u w) (hv : NumV b v w) :
    Calls Try.prog 55 #[u, v] w fun e w' => ∃ r, e = .returned r ∧ NumV (a - b) r w' ∧ Below w.heap.size w w' := by
  obtain ⟨s1, rfl, hs1⟩ := hu
  obtain ⟨s2, rfl, hs2⟩ := hv
  obtain ⟨x1, c1, rfl, _, _⟩ := SlR.shape hs1
  obtain ⟨x2, c2, rfl, _, _⟩ := SlR.shape hs2
  have HS1 : Hid (NB w (.slice x1 (digs a.natAbs).length c1) a.natAbs) := Lib.hid hs1
  have HS2 : Hid (NB w (.slice x2 (digs b.natAbs).length c2) b.natAbs) := Lib.hid hs2
  clear hs1 hs2
  obtain ⟨la, hla⟩ : ∃ la, la = (digs a.natAbs).length := ⟨_, rfl⟩
  obtain ⟨lb, hlb⟩ : ∃ lb, lb = (digs b.natAbs).length := ⟨_, rfl⟩
  have HLA := Lib.hid ha
  have HLB := Lib.hid hb
  rw [← hla] at HS1 ⊢
  rw [← hlb] at HS2 ⊢
  clear hla hlb ha hb
  obtain ⟨f1, hf1⟩ : ∃ f1, decide (a < 0) = f1 := ⟨_, rfl⟩
  obtain ⟨f2, hf2⟩ : ∃ f2, decide (b < 0) = f2 := ⟨_, rfl⟩
  rw [hf1, hf2]
  have HF1 := Lib.hid hf1
  have HF2 := Lib.hid hf2
  clear hf1 hf2
  have HB := Lib.hid (Below.refl w.heap.size w)
  go_enter Try.func55, Try.ntmps55
  go_upto_region 1 with (fail)
  refine Agg.wp_at fun w1 hw1 => ?_
  have hb : Below w.heap.size w w1 := by rw [hw1.out]; repeat (first | exact Below.refl _ _ | refine Agg.bel_drew ?_ | refine Agg.bel_alloc ?_ _)
  replace HB := Lib.hid (HB.out.trans (hb.mono HB.out.size))
  replace HS1 := Lib.hid (HS1.out.keep hb)
  replace HS2 := Lib.hid (HS2.out.keep hb)
  clear hb
  have H2 : Hid (Blk w1 w.heap.size 57 [.bool f1, .slice x1 la c1]) := by show Blk _ _ _ _; rw [hw1.out]; exact ((Blk.new w 57 #[.bool f1, .slice x1 la c1]).al _).al _
  have H3 : Hid (Blk w1 (w.heap.size + 1) 57 [.bool f2, .slice x2 lb c2]) := by show Blk _ _ _ _; rw [hw1.out]; exact (Blk.newAt (w.alloc _) 57 #[.bool f2, .slice x2 lb c2] _ (by simp)).al _
  have H4 : Hid (Blk w1 (w.heap.size + 2) 57 [.bool false, .slice none 0 0]) := by show Blk _ _ _ _; rw [hw1.out]; exact Blk.newAt ((w.alloc _).alloc _) 57 #[.bool false, .slice none 0 0] _ (by simp)
  clear hw1
  refine Agg.chainR 4 (by kernel_rfl) (by kernel_rfl) ?_
  simp only [List.take_succ_cons, List.take_zero, List.drop_succ_cons, List.drop_zero]
  refine Agg.chRowB 2 H2.out rfl (by decide +kernel) rfl rfl rfl rfl ?_
  refine Agg.chRowB 2 H3.out rfl (by decide +kernel) rfl rfl rfl rfl ?_
  refine Agg.chCallG Try.func73 rfl (by kernel_rfl) (NumV (-b)) (NumV.stable _) rfl rfl rfl rfl (fun W hb => Neg_any b (by have := HLB.out; omega) _ W ⟨_, by rw [HF2.out], SlR.keep HS2.out hb⟩) ?_
  refine Agg.chCall_po Try.func56 rfl (by kernel_rfl) (.op (NumV (a - b))) (NumV.stable _) 2 rfl rfl rfl rfl rfl rfl rfl (fun u W hb hg => by rw [Int.sub_eq_add_neg]; exact Add_any a (-b) HLA.out (by rw [Int.natAbs_neg]; exact HLB.out) _ u W ⟨_, by rw [HF1.out], SlR.keep HS1.out hb⟩ hg) ?_
  refine Agg.chEnd ?_
  intro vs w2 hb hf
  simp only [List.reverse, List.reverseAux, Agg.Facts] at hf
  obtain ⟨_, ⟨sl, hv, hnb⟩, _⟩ := hf
  simp only [List.reverse, List.reverseAux, Agg.fill, List.set_cons_succ, List.set_cons_zero, hv]
  clear hv
  have hsz := HB.out.size
  have h4 := H4.out.keep hb
  replace HB := Lib.hid (HB.out.trans (hb.mono hsz))
  clear hb
  obtain ⟨bl, hbl⟩ : ∃ bl, decide (a - b < 0) = bl := ⟨_, rfl⟩
  rw [hbl]
  have HBL := Lib.hid hbl
  clear hbl
  obtain ⟨xl, cl, rfl, _, _⟩ := SlR.shape hnb
  refine Agg.tStore 2 h4 rfl rfl rfl rfl rfl (by decide +kernel) rfl rfl (by simp [Value.oneCell']) (fun w30 hb30 hg30 => ?_)
  refine Agg.wpNil ?_
  have hnf := NB.far hnb h4 (by intro q hq; cases hq) hg30
  have hsz2 := HB.out.size
  go_wp2_with fail
  refine bodyPost_ret (results_row1 (m := 2) rfl hb30 rfl (by decide +kernel) rfl) rfl ⟨_, rfl, ⟨_, by rw [HBL.out], hnf⟩, ?_⟩
  exact HB.out.trans (grown_below hg30 hsz2 (fun j hj => (by cases hj; omega)))
/-- may a number be one of 64 bits? -/
def fits64 (z : Int) : Bool := decide (-9223372036854775808 ≤ z ∧ z < 9223372036854775808)
set_option maxHeartbeats 4000000 in
set_option maxRecDepth 100000 in
theorem Fits_any (z : Int) (hz : (digs z.natAbs).length ≤ 500) (v : Value) (w : World) (hv : NumV z v w) :
    Calls Try.prog 76 #[v, .int .i64 64] w fun e w' => e = .returned (.bool (fits64 z)) ∧ Below w.heap.size w w' := by
  obtain ⟨s1, rfl, hs1⟩ := hv
  obtain ⟨x1, c1, rfl, _, _⟩ := SlR.shape hs1
  have HS1 : Hid (NB w (.slice x1 (digs z.natAbs).length c1) z.natAbs) := Lib.hid hs1
  clear hs1
  obtain ⟨la, hla⟩ : ∃ la, la = (digs z.natAbs).length := ⟨_, rfl⟩
  have HLA := Lib.hid hz
  rw [← hla] at HS1 ⊢
  clear hla hz
  have hp : (digs (2 ^ 63)).length ≤ 1000 := by rw [digs_pow]; simp
  have HP := Lib.hid hp
  have e63 : (2 : Nat) ^ 63 = 9223372036854775808 := by decide
  have HNEG : Hid (z < 0 → (!decide (2 ^ 63 < z.natAbs)) = fits64 z) := by
    refine Lib.hid (fun h => ?_)
    unfold fits64
    rw [e63, ← decide_not, decide_eq_decide]; omega
  have HPOS : Hid (¬ z < 0 → decide (z.natAbs < 2 ^ 63) = fits64 z) := by
    refine Lib.hid (fun h => ?_)
    unfold fits64
    rw [e63, decide_eq_decide]; omega
  clear e63 hp
  by_cases hn : z < 0
  · have hd : decide (z < 0) = true := by simpa using hn
    have HQ := Lib.hid (HNEG.out hn)
    rw [hd]
    clear hd hn HPOS HNEG
    have HB := Lib.hid (Below.refl w.heap.size w)
    go_enter Try.func76, Try.ntmps76
    go_upto_region 2 with (fail)
    refine Agg.wp_at fun w1 hw1 => ?_
    have hb : Below w.heap.size w w1 := by rw [hw1.out]; repeat (first | exact Below.refl _ _ | refine Agg.bel_drew ?_ | refine Agg.bel_alloc ?_ _)
    replace HB := Lib.hid (HB.out.trans (hb.mono HB.out.size))
    replace HS1 := Lib.hid (HS1.out.keep hb)
    clear hb
    have H2 : Hid (Blk w1 w.heap.size 57 [.bool true, .slice x1 la c1]) := by show Blk _ _ _ _; rw [hw1.out]; exact Blk.new w 57 #[.bool true, .slice x1 la c1]
    clear hw1
    refine Agg.chainR 8 (by kernel_rfl) (by kernel_rfl) ?_
    simp only [List.take_succ_cons, List.take_zero, List.drop_succ_cons, List.drop_zero]
    refine Agg.chMove rfl rfl rfl rfl ?_
    refine Agg.chAr64 rfl rfl rfl rfl (by omega) (by omega) rfl rfl ?_
    refine Agg.chCallG Try.func63 rfl (by kernel_rfl) (fun v w => NB w v (2 ^ 63)) (NB.stable _) rfl rfl rfl rfl (fun W hb => power_any 63 (by decide) W) ?_
    refine Agg.chFA fo_Num_1 rfl rfl rfl rfl ?_
    refine Agg.chLoadB H2.out (by decide +kernel) rfl rfl (by rfl) rfl rfl ?_
    refine Agg.chCall_op Try.func74 rfl (by kernel_rfl) (.pure (.bool (decide (2 ^ 63 < z.natAbs)))) trivial 2 rfl rfl rfl rfl rfl rfl rfl (fun u W hb hg => (less_any (2 ^ 63) z.natAbs HP.out (by have := HLA.out; omega) u _ W hg (SlR.keep HS1.out hb) _ rfl).mono (fun e w' ⟨q1, q2⟩ => ⟨_, q1, rfl, q2⟩)) ?_
    refine Agg.chNot rfl rfl rfl rfl ?_
    refine Agg.chAssign rfl rfl rfl rfl ?_
    refine Agg.chEnd ?_
    intro vs w2 hb _
    refine Agg.wpNil ?_
    simp only [List.reverse, List.reverseAux, Agg.fill, List.set_cons_succ, List.set_cons_zero]
    replace HB := Lib.hid (HB.out.trans (hb.mono HB.out.size))
    replace HS1 := Lib.hid (HS1.out.keep hb)
    replace H2 := Lib.hid (H2.out.keep hb)
    clear hb
    rw [HQ.out]
    go_wp2_with fail
    go_ret
    exact ⟨rfl, HB.out⟩
  · have hd : decide (z < 0) = false := by simpa using hn
    have HQ := Lib.hid (HPOS.out hn)
    rw [hd]
    clear hd hn HPOS HNEG
    have HB := Lib.hid (Below.refl w.heap.size w)
    go_enter Try.func76, Try.ntmps76
    go_upto_region 3 with (fail)
    refine Agg.wp_at fun w1 hw1 => ?_
    have hb : Below w.heap.size w w1 := by rw [hw1.out]; repeat (first | exact Below.refl _ _ | refine Agg.bel_drew ?_ | refine Agg.bel_alloc ?_ _)
    replace HB := Lib.hid (HB.out.trans (hb.mono HB.out.size))
    replace HS1 := Lib.hid (HS1.out.keep hb)
    clear hb
    have H2 : Hid (Blk w1 w.heap.size 57 [.bool false, .slice x1 la c1]) := by show Blk _ _ _ _; rw [hw1.out]; exact Blk.new w 57 #[.bool false, .slice x1 la c1]
    clear hw1
    refine Agg.chainR 7 (by kernel_rfl) (by kernel_rfl) ?_
    simp only [List.take_succ_cons, List.take_zero, List.drop_succ_cons, List.drop_zero]
    refine Agg.chFA fo_Num_1 rfl rfl rfl rfl ?_
    refine Agg.chLoadB H2.out (by decide +kernel) rfl rfl (by rfl) rfl rfl ?_
    refine Agg.chMove rfl rfl rfl rfl ?_
    refine Agg.chAr64 rfl rfl rfl rfl (by omega) (by omega) rfl rfl ?_
    refine Agg.chCallG Try.func63 rfl (by kernel_rfl) (fun v w => NB w v (2 ^ 63)) (NB.stable _) rfl rfl rfl rfl (fun W hb => power_any 63 (by decide) W) ?_
    refine Agg.chCall_po Try.func74 rfl (by kernel_rfl) (.pure (.bool (decide (z.natAbs < 2 ^ 63)))) trivial 4 rfl rfl rfl rfl rfl rfl rfl (fun u W hb hg => (less_any z.natAbs (2 ^ 63) (by have := HLA.out; omega) HP.out _ u W (SlR.keep HS1.out hb) hg _ rfl).mono (fun e w' ⟨q1, q2⟩ => ⟨_, q1, rfl, q2⟩)) ?_
    refine Agg.chAssign rfl rfl rfl rfl ?_
    refine Agg.chEnd ?_
    intro vs w2 hb _
    refine Agg.wpNil ?_
    simp only [List.reverse, List.reverseAux, Agg.fill, List.set_cons_succ, List.set_cons_zero]
    replace HB := Lib.hid (HB.out.trans (hb.mono HB.out.size))
    replace HS1 := Lib.hid (HS1.out.keep hb)
    replace H2 := Lib.hid (H2.out.keep hb)
    clear hb
    rw [HQ.out]
    go_wp2_with fail
    go_ret
    exact ⟨rfl, HB.out⟩
end Go.Proofs.Ytcedalenjcbnmaa
