/-
  THE DOCUMENT's NUMBERS (layer 1): Sub, Fits, word, Value.
-/
import Derived.Test.YtchpkgneloiidaaPmW8
section
namespace Go.Proofs.Ytchpkgneloiidaa
open Go.ChangeShapes Go.WideShapes Go.ChangeAt Go.RowKit Agg Wd

/-- may a number be one of 64 bits? -/
def fits64 (z : Int) : Bool := decide (-9223372036854775808 ≤ z ∧ z < 9223372036854775808)
set_option maxHeartbeats 4000000 in
set_option maxRecDepth 100000 in
theorem Fits_any (z : Int) (hz : (digs z.natAbs).length ≤ 500) (v : Value) (w : World) (hv : NumV z v w) :
    Calls Try.prog 58 #[v, .int .i64 64] w fun e w' => e = .returned (.bool (fits64 z)) ∧ Below w.heap.size w w' := by
  obtain ⟨s1, rfl, hs1⟩ := hv
  obtain ⟨x1, c1, rfl, _, _⟩ := SlR.shape hs1
  have HS1 : Hid (NB w (.slice x1 (digs z.natAbs).length c1) z.natAbs) := Lib.hid hs1
  clear hs1
  obtain ⟨la, hla⟩ : ∃ la, la = (digs z.natAbs).length := ⟨_, rfl⟩
  have HLA := Lib.hid hz
  rw [← hla] at HS1 ⊢
  clear hla hz
  have hp : (digs (2 ^ 63)).length ≤ 1000 := by rw [digs_pow]; simp
  have HP := Lib.hid hp
  have e63 : (2 : Nat) ^ 63 = 9223372036854775808 := by decide
  have HNEG : Hid (z < 0 → (!decide (2 ^ 63 < z.natAbs)) = fits64 z) := by
    refine Lib.hid (fun h => ?_)
    unfold fits64
    rw [e63, ← decide_not, decide_eq_decide]; omega
  have HPOS : Hid (¬ z < 0 → decide (z.natAbs < 2 ^ 63) = fits64 z) := by
    refine Lib.hid (fun h => ?_)
    unfold fits64
    rw [e63, decide_eq_decide]; omega
  clear e63 hp
  by_cases hn : z < 0
  · have hd : decide (z < 0) = true := by simpa using hn
    have HQ := Lib.hid (HNEG.out hn)
    rw [hd]
    clear hd hn HPOS HNEG
    have HB := Lib.hid (Below.refl w.heap.size w)
    go_enter Try.func58, Try.ntmps58
    go_upto_region 2 with (fail)
    refine Agg.wp_at fun w1 hw1 => ?_
    have hb : Below w.heap.size w w1 := by rw [hw1.out]; repeat (first | exact Below.refl _ _ | refine Agg.bel_drew ?_ | refine Agg.bel_alloc ?_ _)
    replace HB := Lib.hid (HB.out.trans (hb.mono HB.out.size))
    replace HS1 := Lib.hid (HS1.out.keep hb)
    clear hb
    have H2 : Hid (Blk w1 w.heap.size 83 [.bool true, .slice x1 la c1]) := by show Blk _ _ _ _; rw [hw1.out]; exact Blk.new w 83 #[.bool true, .slice x1 la c1]
    clear hw1
    refine Agg.chainR 8 (by kernel_rfl) (by kernel_rfl) ?_
    simp only [List.take_succ_cons, List.take_zero, List.drop_succ_cons, List.drop_zero]
    refine Agg.chMove rfl rfl rfl rfl ?_
    refine Agg.chAr64 rfl rfl rfl rfl (by omega) (by omega) rfl rfl ?_
    refine Agg.chCallG Try.func57 rfl (by kernel_rfl) (fun v w => NB w v (2 ^ 63)) (NB.stable _) rfl rfl rfl rfl (fun W hb => power_any 63 (by decide) W) ?_
    refine Agg.chFA fo_Num_1 rfl rfl rfl rfl ?_
    refine Agg.chLoadB H2.out (by decide +kernel) rfl rfl (by rfl) rfl rfl ?_
    refine Agg.chCall_op Try.func56 rfl (by kernel_rfl) (.pure (.bool (decide (2 ^ 63 < z.natAbs)))) trivial 2 rfl rfl rfl rfl rfl rfl rfl (fun u W hb hg => (less_any (2 ^ 63) z.natAbs HP.out (by have := HLA.out; omega) u _ W hg (SlR.keep HS1.out hb) _ rfl).mono (fun e w' ⟨q1, q2⟩ => ⟨_, q1, rfl, q2⟩)) ?_
    refine Agg.chNot rfl rfl rfl rfl ?_
    refine Agg.chAssign rfl rfl rfl rfl ?_
    refine Agg.chEnd ?_
    intro vs w2 hb _
    refine Agg.wpNil ?_
    simp only [List.reverse, List.reverseAux, Agg.fill, List.set_cons_succ, List.set_cons_zero]
    replace HB := Lib.hid (HB.out.trans (hb.mono HB.out.size))
    replace HS1 := Lib.hid (HS1.out.keep hb)
    replace H2 := Lib.hid (H2.out.keep hb)
    clear hb
    rw [HQ.out]
    go_wp2_with fail
    go_ret
    exact ⟨rfl, HB.out⟩
  · have hd : decide (z < 0) = false := by simpa using hn
    have HQ := Lib.hid (HPOS.out hn)
    rw [hd]
    clear hd hn HPOS HNEG
    have HB := Lib.hid (Below.refl w.heap.size w)
    go_enter Try.func58, Try.ntmps58
    go_upto_region 3 with (fail)
    refine Agg.wp_at fun w1 hw1 => ?_
    have hb : Below w.heap.size w w1 := by rw [hw1.out]; repeat (first | exact Below.refl _ _ | refine Agg.bel_drew ?_ | refine Agg.bel_alloc ?_ _)
    replace HB := Lib.hid (HB.out.trans (hb.mono HB.out.size))
    replace HS1 := Lib.hid (HS1.out.keep hb)
    clear hb
    have H2 : Hid (Blk w1 w.heap.size 83 [.bool false, .slice x1 la c1]) := by show Blk _ _ _ _; rw [hw1.out]; exact Blk.new w 83 #[.bool false, .slice x1 la c1]
    clear hw1
    refine Agg.chainR 7 (by kernel_rfl) (by kernel_rfl) ?_
    simp only [List.take_succ_cons, List.take_zero, List.drop_succ_cons, List.drop_zero]
    refine Agg.chFA fo_Num_1 rfl rfl rfl rfl ?_
    refine Agg.chLoadB H2.out (by decide +kernel) rfl rfl (by rfl) rfl rfl ?_
    refine Agg.chMove rfl rfl rfl rfl ?_
    refine Agg.chAr64 rfl rfl rfl rfl (by omega) (by omega) rfl rfl ?_
    refine Agg.chCallG Try.func57 rfl (by kernel_rfl) (fun v w => NB w v (2 ^ 63)) (NB.stable _) rfl rfl rfl rfl (fun W hb => power_any 63 (by decide) W) ?_
    refine Agg.chCall_po Try.func56 rfl (by kernel_rfl) (.pure (.bool (decide (z.natAbs < 2 ^ 63)))) trivial 4 rfl rfl rfl rfl rfl rfl rfl (fun u W hb hg => (less_any z.natAbs (2 ^ 63) (by have := HLA.out; omega) HP.out _ u W (SlR.keep HS1.out hb) hg _ rfl).mono (fun e w' ⟨q1, q2⟩ => ⟨_, q1, rfl, q2⟩)) ?_
    refine Agg.chAssign rfl rfl rfl rfl ?_
    refine Agg.chEnd ?_
    intro vs w2 hb _
    refine Agg.wpNil ?_
    simp only [List.reverse, List.reverseAux, Agg.fill, List.set_cons_succ, List.set_cons_zero]
    replace HB := Lib.hid (HB.out.trans (hb.mono HB.out.size))
    replace HS1 := Lib.hid (HS1.out.keep hb)
    replace H2 := Lib.hid (H2.out.keep hb)
    clear hb
    rw [HQ.out]
    go_wp2_with fail
    go_ret
    exact ⟨rfl, HB.out⟩
end Go.Proofs.Ytchpkgneloiidaa
end
section
/-
  THE DOCUMENT's NUMBERS (layer 1): word, Value.
-/
namespace Go.Proofs.Ytchpkgneloiidaa
open Go.ChangeShapes Go.WideShapes Go.ChangeAt Go.RowKit Agg Wd

set_option maxHeartbeats 4000000 in
set_option maxRecDepth 100000 in
theorem word_any (n : Nat) (hn : n < 18446744073709551616) (v : Value) (w : World) (hv : NB w v n) :
    Calls Try.prog 59 #[v, .int .i64 0] w fun e w' => e = .returned (.int .u64 (n : Int)) ∧ Below w.heap.size w w' := by
  have hd64 : (digs n).length ≤ 64 := digs_len (by have e : (2 : Nat) ^ 64 = 18446744073709551616 := by decide
                                                   rw [e]; exact hn)
  have HV : Hid (SlR w v 1 (digs n).length (iD (digs n))) := Lib.hid hv
  have HLT := Lib.hid (digs_lt n)
  have HVAL := Lib.hid (val_digs n)
  have HN := Lib.hid hn
  clear hv hn
  generalize digs n = D at *
  obtain ⟨x, cap, rfl, hcap, hmax⟩ := HV.out.shape
  unfold maxLen at hmax
  have HLE : Hid (∀ k, k ≤ D.length → val (D.drop k) ≤ n) := by
    refine Lib.hid (fun k hk => ?_)
    have h := val_cut D k hk
    rw [HVAL.out] at h
    have : val (D.drop k) ≤ 2 ^ k * val (D.drop k) := Nat.le_mul_of_pos_left _ (Nat.pow_pos (by decide))
    omega
  have HB := Lib.hid (Below.refl w.heap.size w)
  go_enter Try.func59, Try.ntmps59
  go_wp2_with fail
  go_loopw [6, 5] (fun i a wr => ∃ k : Nat, k ≤ 64 ∧ i = .int .i64 ((k : Int) - 1) ∧ a = .int .u64 (val (D.drop k) : Int) ∧ Below w.heap.size w wr) (fun i _ _ => (intOf i + 1).toNat)
  case atStart => exact ⟨64, by omega, rfl, by rw [val_drop_none D 64 hd64]; rfl, HB.out⟩
  case round =>
    obtain ⟨k, hk, rfl, rfl, hb⟩ := hrel
    replace HB := Lib.hid hb
    have HV2 := Lib.hid (HV.out.keep hb)
    clear hb
    by_cases h0 : (k : Int) - 1 ≥ 0
    · obtain ⟨j, rfl⟩ : ∃ j, k = j + 1 := ⟨k - 1, by omega⟩
      have e1 : ((j + 1 : Nat) : Int) - 1 = (j : Int) := by omega
      rw [e1] at h0 ⊢
      by_cases hj : j < D.length
      · obtain ⟨b1, o1, _, hve, _, _, hcs, _⟩ := HV2.out.pos (by decide) (by omega)
        simp only [Value.slice.injEq, true_and] at hve
        obtain ⟨rfl, rfl⟩ := hve
        have hc1 : wr.cell? ⟨b1, o1 + j, none⟩ = some (.int .i64 (D[j] : Int)) := hcs j _ (iD_get D j hj)
        have HD := Lib.hid (val_drop D j hj)
        have hd2 := mem_lt HLT.out j hj
        have hle := HLE.out j (by omega)
        rw [HD.out] at hle
        have hlt := HN.out
        clear hcs
        generalize D[j] = d at *
        generalize val (D.drop (j + 1)) = X at *
        have hw2 : IntKind.u64.wrap ((X : Int) * 2) = (X : Int) * 2 := by rw [IntKind.wrap_u64]; omega
        rcases (by omega : d = 0 ∨ d = 1) with hd | hd
        · have hb1 : ((d : Int) == 1) = false := by simp [hd]
          have HX : Hid (((val (D.drop j) : Nat) : Int) = (X : Int) * 2) := Lib.hid (by rw [HD.out]; omega)
          clear hle hlt hd hd2
          go_wp2_with fail
          go_roundw
          case rel => exact ⟨j, by omega, rfl, by rw [HX.out], HB.out⟩
          case measure => simp only [intOf]; omega
        · have hb1 : ((d : Int) == 1) = true := by simp [hd]
          have hw3 : IntKind.u64.wrap ((X : Int) * 2 + 1) = (X : Int) * 2 + 1 := by rw [IntKind.wrap_u64]; omega
          have HX : Hid (((val (D.drop j) : Nat) : Int) = (X : Int) * 2 + 1) := Lib.hid (by rw [HD.out]; omega)
          clear hle hlt hd hd2
          go_wp2_with fail
          go_roundw
          case rel => exact ⟨j, by omega, rfl, by rw [HX.out], HB.out⟩
          case measure => simp only [intOf]; omega
      · have h1 := val_drop_none D (j + 1) (by omega)
        have h2 := Lib.hid (val_drop_none D j (by omega))
        rw [h1]
        clear h1
        go_wp2_with fail
        go_roundw
        case rel => exact ⟨j, by omega, rfl, by rw [h2.out]; rfl, HB.out⟩
        case measure => simp only [intOf]; omega
    · obtain rfl : k = 0 := by omega
      rw [List.drop_zero, HVAL.out]
      go_wp2_with fail
      go_ret
      exact ⟨rfl, HB.out⟩
set_option maxHeartbeats 4000000 in
set_option maxRecDepth 100000 in
theorem Value_any (z : Int) (hz : (digs z.natAbs).length ≤ 500) (v : Value) (w : World) (hv : NumV z v w) :
    Calls Try.prog 47 #[v] w fun e w' => e = .returned (.tuple #[.int .i64 (if fits64 z then z else 0), .bool (fits64 z)]) ∧ Below w.heap.size w w' := by
  have HFit := Lib.hid (fun W (h : NumV z v W) => Fits_any z hz v W h)
  obtain ⟨s1, rfl, hs1⟩ := hv
  obtain ⟨x1, c1, rfl, _, _⟩ := SlR.shape hs1
  have HS1 : Hid (NB w (.slice x1 (digs z.natAbs).length c1) z.natAbs) := Lib.hid hs1
  clear hs1
  have HLA := Lib.hid hz
  clear hz
  obtain ⟨f1, hf1⟩ : ∃ f1, decide (z < 0) = f1 := ⟨_, rfl⟩
  have HF1 := Lib.hid hf1
  have HNV : Hid (∀ W, NB W (.slice x1 (digs z.natAbs).length c1) z.natAbs → NumV z (.agg #[.bool f1, .slice x1 (digs z.natAbs).length c1]) W) := Lib.hid (fun W h => ⟨_, by rw [hf1], h⟩)
  rw [hf1] at HFit ⊢
  clear hf1
  obtain ⟨la, hla⟩ : ∃ la, la = (digs z.natAbs).length := ⟨_, rfl⟩
  rw [← hla] at HS1 HFit HNV ⊢
  clear hla
  obtain ⟨ok, hok⟩ : ∃ ok, fits64 z = ok := ⟨_, rfl⟩
  rw [hok] at HFit ⊢
  have HOK := Lib.hid hok
  clear hok
  have HB := Lib.hid (Below.refl w.heap.size w)
  go_enter Try.func47, Try.ntmps47
  go_wp2_with fail
  refine Agg.calls_at fun w1 hw1 => ?_
  have hb : Below w.heap.size w w1 := by rw [hw1.out]; repeat (first | exact Below.refl _ _ | refine Agg.bel_drew ?_ | refine Agg.bel_alloc ?_ _)
  replace HB := Lib.hid (HB.out.trans (hb.mono HB.out.size))
  replace HS1 := Lib.hid (HS1.out.keep hb)
  clear hb
  have H1 : Hid (Blk w1 w.heap.size 83 [.bool f1, .slice x1 la c1]) := by show Blk _ _ _ _; rw [hw1.out]; exact Blk.new w 83 #[.bool f1, .slice x1 la c1]
  clear hw1
  refine (HFit.out w1 (HNV.out _ HS1.out)).mono ?_
  rintro e w2 ⟨rfl, hb⟩
  replace HB := Lib.hid (HB.out.trans (hb.mono HB.out.size))
  replace HS1 := Lib.hid (HS1.out.keep hb)
  replace H1 := Lib.hid (H1.out.keep hb)
  clear hb
  cases ok
  · go_wp2_with fail
    go_ret2
    exact ⟨rfl, HB.out⟩
  · have xH1_0 := H1.out.cell 0
    have xH1_1 := H1.out.cell 1
    have lH1 := H1.out.lt
    simp only [List.getElem?_cons_zero, List.getElem?_cons_succ] at xH1_0 xH1_1
    have hb64 : -9223372036854775808 ≤ z ∧ z < 9223372036854775808 := by
      have := HOK.out
      unfold fits64 at this
      simpa using this
    have e64 : (2 : Nat) ^ 64 = 18446744073709551616 := by decide
    cases f1
    · have hzp : ¬ z < 0 := by have := HF1.out; simpa using this
      have hw : IntKind.i64.wrap ((z.natAbs : Nat) : Int) = z := by rw [IntKind.wrap_i64]; omega
      have hlt : z.natAbs < 18446744073709551616 := by omega
      have HW := Lib.hid hw
      have HLT := Lib.hid hlt
      clear hb64 e64 hzp hw hlt
      go_wp2_with fail
      clear xH1_0 xH1_1 lH1
      refine (word_any z.natAbs HLT.out _ w2 HS1.out).mono ?_
      rintro e w3 ⟨rfl, hb⟩
      replace HB := Lib.hid (HB.out.trans (hb.mono HB.out.size))
      replace HS1 := Lib.hid (HS1.out.keep hb)
      replace H1 := Lib.hid (H1.out.keep hb)
      clear hb
      have hw := HW.out
      go_wp2_with (refine gInt z rfl rfl rfl Try.underlying80 Try.underlying2 hw ?_; simp only [Act.put, List.setIfInBounds_toArray, List.set_cons_succ, List.set_cons_zero])
      go_ret2
      exact ⟨rfl, HB.out⟩
    · have hzn : z < 0 := by have := HF1.out; simpa using this
      have hw : IntKind.i64.wrap ((2 ^ 64 - z.natAbs : Nat) : Int) = z := by rw [IntKind.wrap_i64, e64]; omega
      have hlt : 2 ^ 64 - z.natAbs < 18446744073709551616 := by rw [e64]; omega
      have hle : z.natAbs ≤ 2 ^ 64 := by rw [e64]; omega
      have HW := Lib.hid hw
      have HLT := Lib.hid hlt
      have HLE := Lib.hid hle
      clear hb64 e64 hzn hw hlt hle
      go_wp2_with fail
      clear xH1_0 xH1_1 lH1
      refine (power_any 64 (by decide) w2).mono ?_
      rintro e w4 ⟨p, rfl, hp, hb⟩
      replace HB := Lib.hid (HB.out.trans (hb.mono HB.out.size))
      replace HS1 := Lib.hid (HS1.out.keep hb)
      replace H1 := Lib.hid (H1.out.keep hb)
      clear hb
      have HP := Lib.hid hp
      obtain ⟨xp, cp, rfl, _, _⟩ := SlR.shape hp
      clear hp
      go_wp2_with fail
      refine (minus_any (2 ^ 64) z.natAbs HLE.out (by rw [digs_pow]; simp) (by have := HLA.out; omega) _ _ w4 HP.out HS1.out).mono ?_
      rintro e w5 ⟨m, rfl, hm, hb⟩
      replace HB := Lib.hid (HB.out.trans (hb.mono HB.out.size))
      replace HS1 := Lib.hid (HS1.out.keep hb)
      replace HP := Lib.hid (HP.out.keep hb)
      clear hb
      obtain ⟨u, hu⟩ : ∃ u, u = 2 ^ 64 - z.natAbs := ⟨_, rfl⟩
      rw [← hu] at hm HW HLT
      clear hu
      have HM := Lib.hid hm
      obtain ⟨xm, cm, rfl, _, _⟩ := SlR.shape hm
      clear hm
      go_wp2_with fail
      refine (word_any u HLT.out _ w5 HM.out).mono ?_
      rintro e w6 ⟨rfl, hb⟩
      replace HB := Lib.hid (HB.out.trans (hb.mono HB.out.size))
      replace HM := Lib.hid (HM.out.keep hb)
      clear hb
      have hw := HW.out
      go_wp2_with (refine gInt z rfl rfl rfl Try.underlying80 Try.underlying2 hw ?_; simp only [Act.put, List.setIfInBounds_toArray, List.set_cons_succ, List.set_cons_zero])
      go_ret2
      exact ⟨rfl, HB.out⟩
end Go.Proofs.Ytchpkgneloiidaa
end
section
/-
  THE DOCUMENT's NUMBERS (layer 1): times, Mul.
-/
namespace Go.Proofs.Ytchpkgneloiidaa
open Go.ChangeShapes Go.WideShapes Go.ChangeAt Go.RowKit Agg Wd

theorem NB.nil (w : World) : NB w (.slice none 0 0) 0 := by
  show SlR _ _ _ _ _
  rw [digs_zero]; exact SlR.nil _ _
theorem drop_le (n k : Nat) : val ((digs n).drop k) ≤ n := by
  by_cases h : k ≤ (digs n).length
  · have h1 := val_cut (digs n) k h
    rw [val_digs] at h1
    have : val ((digs n).drop k) ≤ 2 ^ k * val ((digs n).drop k) := Nat.le_mul_of_pos_left _ (Nat.pow_pos (by decide))
    omega
  · rw [val_drop_none _ _ (by omega)]; omega
theorem bytes_new_int (w : World) (d : Nat) : (w.alloc (.cells #[.int .i64 (d : Int)] 3)).ownsRow w.heap.size 3 1 (.slice (some ⟨w.heap.size, 0, none⟩) 1 1) 1 (iD [d]) :=
  World.ownsRow_lit (e := 3) (size := 1) (base := w.heap.size) w #[.int .i64 (d : Int)] 1 (Nat.le_refl _) (by decide) rfl
end Go.Proofs.Ytchpkgneloiidaa
end
section
/-
  THE DOCUMENT's NUMBERS (layer 1): Mul; two numbers that are compared.
-/
namespace Go.Proofs.Ytchpkgneloiidaa
open Go.ChangeShapes Go.WideShapes Go.ChangeAt Go.RowKit Agg Wd

theorem mul_sign {a b : Int} {f1 f2 : Bool} (h1 : decide (a < 0) = f1) (h2 : decide (b < 0) = f2) : (bif (f1 != f2) then -((a.natAbs * b.natAbs : Nat) : Int) else ((a.natAbs * b.natAbs : Nat) : Int)) = a * b := by
  have e1 : a = if f1 then -(a.natAbs : Int) else (a.natAbs : Int) := by cases f1 <;> simp at h1 ⊢ <;> omega
  have e2 : b = if f2 then -(b.natAbs : Int) else (b.natAbs : Int) := by cases f2 <;> simp at h2 ⊢ <;> omega
  conv => rhs; rw [e1, e2]
  cases f1 <;> cases f2 <;> simp [Int.mul_neg, Int.neg_mul]
end Go.Proofs.Ytchpkgneloiidaa
end
