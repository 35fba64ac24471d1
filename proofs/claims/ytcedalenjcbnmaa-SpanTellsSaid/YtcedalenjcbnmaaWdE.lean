/-
  THE DOCUMENT's NUMBERS (layer 1): Mul; two numbers that are compared.
-/
import Derived.Test.YtcedalenjcbnmaaWdD
namespace Go.Proofs.Ytcedalenjcbnmaa
open Go.ChangeShapes Go.WideShapes Go.ChangeAt Go.RowKit Agg Wd

theorem mul_sign {a b : Int} {f1 f2 : Bool} (h1 : decide (a < 0) = f1) (h2 : decide (b < 0) = f2) : (bif (f1 != f2) then -((a.natAbs * b.natAbs : Nat) : Int) else ((a.natAbs * b.natAbs : Nat) : Int)) = a * b := by
  have e1 : a = if f1 then -(a.natAbs : Int) else (a.natAbs : Int) := by cases f1 <;> simp at h1 ⊢ <;> omega
  have e2 : b = if f2 then -(b.natAbs : Int) else (b.natAbs : Int) := by cases f2 <;> simp at h2 ⊢ <;> omega
  conv => rhs; rw [e1, e2]
  cases f1 <;> cases f2 <;> simp [Int.mul_neg, Int.neg_mul]
set_option maxHeartbeats 4000000 in
set_option maxRecDepth 100000 in
theorem Mul_any (a b : Int) (ha : (digs a.natAbs).length ≤ 500) (hb : (digs b.natAbs).length ≤ 500) (hab : (digs (a.natAbs * b.natAbs)).length ≤ 900) (u v : Value) (w : World) (hu : NumV a u w) (hv : NumV b v w) :
    Calls Try.prog 67 #[u, v] w fun e w' => ∃ r, e = .returned r ∧ NumV (a * b) r w' ∧ Below w.heap.size w w' := by
  obtain ⟨s1, rfl, hs1⟩ := hu
  obtain ⟨s2, rfl, hs2⟩ := hv
  obtain ⟨x1, c1, rfl, _, _⟩ := SlR.shape hs1
  obtain ⟨x2, c2, rfl, _, _⟩ := SlR.shape hs2
  have HS1 : Hid (NB w (.slice x1 (digs a.natAbs).length c1) a.natAbs) := Lib.hid hs1
  have HS2 : Hid (NB w (.slice x2 (digs b.natAbs).length c2) b.natAbs) := Lib.hid hs2
  clear hs1 hs2
  obtain ⟨la, hla⟩ : ∃ la, la = (digs a.natAbs).length := ⟨_, rfl⟩
  obtain ⟨lb, hlb⟩ : ∃ lb, lb = (digs b.natAbs).length := ⟨_, rfl⟩
  have HLA := Lib.hid ha
  have HLB := Lib.hid hb
  have HLAB := Lib.hid hab
  rw [← hla] at HS1 ⊢
  rw [← hlb] at HS2 ⊢
  clear hla hlb ha hb hab
  obtain ⟨f1, hf1⟩ : ∃ f1, decide (a < 0) = f1 := ⟨_, rfl⟩
  obtain ⟨f2, hf2⟩ : ∃ f2, decide (b < 0) = f2 := ⟨_, rfl⟩
  rw [hf1, hf2]
  have HF1 := Lib.hid hf1
  have HF2 := Lib.hid hf2
  clear hf1 hf2
  have HB := Lib.hid (Below.refl w.heap.size w)
  go_enter Try.func67, Try.ntmps67
  go_upto_region 1 with (fail)
  refine Agg.wp_at fun w1 hw1 => ?_
  have hb : Below w.heap.size w w1 := by rw [hw1.out]; repeat (first | exact Below.refl _ _ | refine Agg.bel_drew ?_ | refine Agg.bel_alloc ?_ _)
  replace HB := Lib.hid (HB.out.trans (hb.mono HB.out.size))
  replace HS1 := Lib.hid (HS1.out.keep hb)
  replace HS2 := Lib.hid (HS2.out.keep hb)
  clear hb
  have H2 : Hid (Blk w1 w.heap.size 57 [.bool f1, .slice x1 la c1]) := by show Blk _ _ _ _; rw [hw1.out]; exact ((Blk.new w 57 #[.bool f1, .slice x1 la c1]).al _).al _
  have H3 : Hid (Blk w1 (w.heap.size + 1) 57 [.bool f2, .slice x2 lb c2]) := by show Blk _ _ _ _; rw [hw1.out]; exact (Blk.newAt (w.alloc _) 57 #[.bool f2, .slice x2 lb c2] _ (by simp)).al _
  have H4 : Hid (Blk w1 (w.heap.size + 2) 57 [.bool false, .slice none 0 0]) := by show Blk _ _ _ _; rw [hw1.out]; exact Blk.newAt ((w.alloc _).alloc _) 57 #[.bool false, .slice none 0 0] _ (by simp)
  clear hw1
  refine Agg.chainR 11 (by kernel_rfl) (by kernel_rfl) ?_
  simp only [List.take_succ_cons, List.take_zero, List.drop_succ_cons, List.drop_zero]
  refine Agg.chFA fo_Num_0 rfl rfl rfl rfl ?_
  refine Agg.chLoadB H2.out (by decide +kernel) rfl rfl (by rfl) rfl rfl ?_
  refine Agg.chFA fo_Num_0 rfl rfl rfl rfl ?_
  refine Agg.chLoadB H3.out (by decide +kernel) rfl rfl (by rfl) rfl rfl ?_
  refine Agg.chNeB (f1 != f2) Try.underlying4 rfl rfl rfl rfl rfl rfl ?_
  refine Agg.chFA fo_Num_1 rfl rfl rfl rfl ?_
  refine Agg.chLoadB H2.out (by decide +kernel) rfl rfl (by rfl) rfl rfl ?_
  refine Agg.chFA fo_Num_1 rfl rfl rfl rfl ?_
  refine Agg.chLoadB H3.out (by decide +kernel) rfl rfl (by rfl) rfl rfl ?_
  refine Agg.chCallG Try.func61 rfl (by kernel_rfl) (fun v w => NB w v (a.natAbs * b.natAbs)) (NB.stable _) rfl rfl rfl rfl (fun W hb => wtimes_any a.natAbs b.natAbs (by have := HLA.out; omega) (by have := HLB.out; omega) HLAB.out _ _ W (SlR.keep HS1.out hb) (SlR.keep HS2.out hb)) ?_
  refine Agg.chCall_po Try.func64 rfl (by kernel_rfl) (.op (NumV (bif (f1 != f2) then -((a.natAbs * b.natAbs : Nat) : Int) else ((a.natAbs * b.natAbs : Nat) : Int)))) (NumV.stable _) 9 rfl rfl rfl rfl rfl rfl rfl (fun u W hb hg => made_any (f1 != f2) _ (by have := HLAB.out; omega) u W hg) ?_
  refine Agg.chEnd ?_
  intro vs w2 hb hf
  simp only [List.reverse, List.reverseAux, Agg.Facts] at hf
  obtain ⟨_, ⟨sl, hv, hnb⟩, _⟩ := hf
  simp only [List.reverse, List.reverseAux, Agg.fill, List.set_cons_succ, List.set_cons_zero, hv]
  clear hv
  have hsz := HB.out.size
  have h4 := H4.out.keep hb
  replace HB := Lib.hid (HB.out.trans (hb.mono hsz))
  clear hb
  rw [mul_sign HF1.out HF2.out] at hnb ⊢
  obtain ⟨bl, hbl⟩ : ∃ bl, decide (a * b < 0) = bl := ⟨_, rfl⟩
  rw [hbl]
  have HBL := Lib.hid hbl
  clear hbl
  obtain ⟨xl, cl, rfl, _, _⟩ := SlR.shape hnb
  refine Agg.tStore 2 h4 rfl rfl rfl rfl rfl (by decide +kernel) rfl rfl (by simp [Value.oneCell']) (fun w30 hb30 hg30 => ?_)
  refine Agg.wpNil ?_
  have hnf := NB.far hnb h4 (by intro q hq; cases hq) hg30
  have hsz2 := HB.out.size
  go_wp2_with fail
  refine bodyPost_ret (results_row1 (m := 2) rfl hb30 rfl (by decide +kernel) rfl) rfl ⟨_, rfl, ⟨_, by rw [HBL.out], hnf⟩, ?_⟩
  exact HB.out.trans (grown_below hg30 hsz2 (fun j hj => (by cases hj; omega)))
set_option maxHeartbeats 4000000 in
set_option maxRecDepth 100000 in
theorem Less_any (a b : Int) (ha : (digs a.natAbs).length ≤ 1000) (hb : (digs b.natAbs).length ≤ 1000) (u v : Value) (w : World) (hu : NumV a u w) (hv : NumV b v w) (r : Bool) (hr : decide (a < b) = r) :
    Calls Try.prog 59 #[u, v] w fun e w' => e = .returned (.bool r) ∧ Below w.heap.size w w' := by
  obtain ⟨s1, rfl, hs1⟩ := hu
  obtain ⟨s2, rfl, hs2⟩ := hv
  obtain ⟨x1, c1, rfl, _, _⟩ := SlR.shape hs1
  obtain ⟨x2, c2, rfl, _, _⟩ := SlR.shape hs2
  have HS1 : Hid (NB w (.slice x1 (digs a.natAbs).length c1) a.natAbs) := Lib.hid hs1
  have HS2 : Hid (NB w (.slice x2 (digs b.natAbs).length c2) b.natAbs) := Lib.hid hs2
  clear hs1 hs2
  obtain ⟨la, hla⟩ : ∃ la, la = (digs a.natAbs).length := ⟨_, rfl⟩
  obtain ⟨lb, hlb⟩ : ∃ lb, lb = (digs b.natAbs).length := ⟨_, rfl⟩
  have HLA := Lib.hid ha
  have HLB := Lib.hid hb
  rw [← hla] at HS1 ⊢
  rw [← hlb] at HS2 ⊢
  clear hla hlb ha hb
  have HR := Lib.hid hr
  clear hr
  obtain ⟨f1, hf1⟩ : ∃ f1, decide (a < 0) = f1 := ⟨_, rfl⟩
  obtain ⟨f2, hf2⟩ : ∃ f2, decide (b < 0) = f2 := ⟨_, rfl⟩
  rw [hf1, hf2]
  have HF1 := Lib.hid hf1
  have HF2 := Lib.hid hf2
  clear hf1 hf2
  cases f1 <;> cases f2
  · have HE : Hid (decide (a.natAbs < b.natAbs) = r) := by
      have h1 := HF1.out
      have h2 := HF2.out
      simp only [decide_eq_false_iff_not] at h1 h2
      show _ = _
      rw [← HR.out, decide_eq_decide]; omega
    have HB := Lib.hid (Below.refl w.heap.size w)
    go_enter Try.func59, Try.ntmps59
    go_wp2_with fail
    refine Agg.calls_at fun w1 hw1 => ?_
    have hb : Below w.heap.size w w1 := by rw [hw1.out]; repeat (first | exact Below.refl _ _ | refine Agg.bel_drew ?_ | refine Agg.bel_alloc ?_ _)
    replace HB := Lib.hid (HB.out.trans (hb.mono HB.out.size))
    replace HS1 := Lib.hid (HS1.out.keep hb)
    replace HS2 := Lib.hid (HS2.out.keep hb)
    clear hb
    clear hw1
    refine (less_any a.natAbs b.natAbs HLA.out HLB.out _ _ w1 HS1.out HS2.out r HE.out).mono ?_
    rintro e w2 ⟨rfl, hb⟩
    replace HB := Lib.hid (HB.out.trans (hb.mono HB.out.size))
    replace HS1 := Lib.hid (HS1.out.keep hb)
    replace HS2 := Lib.hid (HS2.out.keep hb)
    clear hb
    go_wp2_with fail
    go_ret
    exact ⟨rfl, HB.out⟩
  · have HE : Hid (r = false) := by
      have h1 := HF1.out
      have h2 := HF2.out
      simp only [decide_eq_false_iff_not, decide_eq_true_eq] at h1 h2
      show _ = _
      rw [← HR.out, decide_eq_false_iff_not]; omega
    have HB := Lib.hid (Below.refl w.heap.size w)
    go_enter Try.func59, Try.ntmps59
    go_wp2_with fail
    go_ret
    exact ⟨by rw [HE.out]; rfl, bel_alloc (bel_alloc HB.out _) _⟩
  · have HE : Hid (r = true) := by
      have h1 := HF1.out
      have h2 := HF2.out
      simp only [decide_eq_false_iff_not, decide_eq_true_eq] at h1 h2
      show _ = _
      rw [← HR.out, decide_eq_true_eq]; omega
    have HB := Lib.hid (Below.refl w.heap.size w)
    go_enter Try.func59, Try.ntmps59
    go_wp2_with fail
    go_ret
    exact ⟨by rw [HE.out]; rfl, bel_alloc (bel_alloc HB.out _) _⟩
  · have HE : Hid (decide (b.natAbs < a.natAbs) = r) := by
      have h1 := HF1.out
      have h2 := HF2.out
      simp only [decide_eq_true_eq] at h1 h2
      show _ = _
      rw [← HR.out, decide_eq_decide]; omega
    have HB := Lib.hid (Below.refl w.heap.size w)
    go_enter Try.func59, Try.ntmps59
    go_wp2_with fail
    refine Agg.calls_at fun w1 hw1 => ?_
    have hb : Below w.heap.size w w1 := by rw [hw1.out]; repeat (first | exact Below.refl _ _ | refine Agg.bel_drew ?_ | refine Agg.bel_alloc ?_ _)
    replace HB := Lib.hid (HB.out.trans (hb.mono HB.out.size))
    replace HS1 := Lib.hid (HS1.out.keep hb)
    replace HS2 := Lib.hid (HS2.out.keep hb)
    clear hb
    clear hw1
    refine (less_any b.natAbs a.natAbs HLB.out HLA.out _ _ w1 HS2.out HS1.out r HE.out).mono ?_
    rintro e w2 ⟨rfl, hb⟩
    replace HB := Lib.hid (HB.out.trans (hb.mono HB.out.size))
    replace HS1 := Lib.hid (HS1.out.keep hb)
    replace HS2 := Lib.hid (HS2.out.keep hb)
    clear hb
    go_wp2_with fail
    go_ret
    exact ⟨rfl, HB.out⟩
end Go.Proofs.Ytcedalenjcbnmaa
