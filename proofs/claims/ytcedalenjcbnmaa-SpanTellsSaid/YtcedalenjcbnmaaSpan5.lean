/-
  THE WALKS OF LAYER 4 (span), fifth part: product, Times, total, Plus, Around.
-/
import Derived.Test.YtcedalenjcbnmaaSpan4
import Derived.Laws.Externs
namespace Go.Proofs.Ytcedalenjcbnmaa
open Go.ChangeShapes Go.WideShapes Go.ChangeAt Go.RowKit Agg

instance (z : Int) : Decidable (I64 z) := by unfold I64; exact inferInstance
/-- is a number an int64? -/
def fitB (z : Int) : Bool := decide (I64 z)
theorem fitB_true {z : Int} : fitB z = true ↔ I64 z := by simp [fitB]
def w64 (z : Int) : Int := IntKind.i64.wrap z
theorem w64_in {z : Int} (h : I64 z) : w64 z = z := by unfold w64; rw [IntKind.wrap_i64]; unfold I64 at h; omega
theorem w64_I (z : Int) : I64 (w64 z) := by unfold w64 I64; rw [IntKind.wrap_i64]; omega
theorem mul_back (a b : Int) (ha : I64 a) (hb : I64 b) (hb0 : b ≠ 0) (h1 : ¬ (a = -1 ∧ b = -9223372036854775808)) (h2 : ¬ (b = -1 ∧ a = -9223372036854775808)) :
    (IntKind.i64.wrap ((w64 (a * b)).tdiv b) == a) = fitB (a * b) := by
  have hw := w64_I (a * b)
  have hd : ∃ m : Int, w64 (a * b) = a * b - m * 18446744073709551616 := by
    unfold w64; rw [IntKind.wrap_i64]
    refine ⟨(a * b + 9223372036854775808) / 18446744073709551616, ?_⟩
    omega
  obtain ⟨m, hm⟩ := hd
  by_cases hf : I64 (a * b)
  · rw [fitB_true.2 hf, w64_in hf, Int.mul_tdiv_cancel _ hb0]
    have := w64_in ha
    unfold w64 at this
    rw [this]; simp
  · have hff : fitB (a * b) = false := by
      cases h : fitB (a * b)
      · rfl
      · exact absurd (fitB_true.1 h) hf
    rw [hff]
    apply beq_false_of_ne
    intro he
    generalize hp : w64 (a * b) = p at *
    have hm0 : m ≠ 0 := by
      intro h0
      subst h0
      apply hf
      have : a * b = p := by omega
      rw [this]; exact hw
    have hq := Int.tmod_add_mul_tdiv p b
    have hr : (p.tmod b).natAbs < b.natAbs := by rw [Int.natAbs_tmod]; exact Nat.mod_lt _ (by omega)
    unfold I64 at ha hb hw
    by_cases hex : b = -1 ∧ p = -9223372036854775808
    · obtain ⟨rfl, rfl⟩ := hex
      have : Int.tdiv (-9223372036854775808) (-1) = 9223372036854775808 := by decide
      rw [this] at he
      have h3 : IntKind.i64.wrap 9223372036854775808 = -9223372036854775808 := by decide
      rw [h3] at he
      exact h2 ⟨rfl, he.symm⟩
    · have hin : -9223372036854775808 ≤ p.tdiv b ∧ p.tdiv b ≤ 9223372036854775807 := by
        have h5 : (p.tdiv b).natAbs ≤ p.natAbs := by rw [Int.natAbs_tdiv]; exact Nat.div_le_self _ _
        constructor
        · omega
        · by_cases h6 : p = -9223372036854775808
          · have hb1 : b ≠ -1 := fun h => hex ⟨h, h6⟩
            have h7 : (p.tdiv b).natAbs = p.natAbs / b.natAbs := Int.natAbs_tdiv ..
            by_cases hb2 : b = 1
            · subst hb2; rw [Int.tdiv_one]; omega
            · have h8 : 2 ≤ b.natAbs := by omega
              have h9 : p.natAbs / b.natAbs ≤ p.natAbs / 2 := Nat.div_le_div_left h8 (by decide)
              omega
          · omega
      have hwr : IntKind.i64.wrap (p.tdiv b) = p.tdiv b := by rw [IntKind.wrap_i64]; omega
      rw [hwr] at he
      rw [he] at hq
      have : m * 18446744073709551616 = - p.tmod b := by
        have hc : b * a = a * b := Int.mul_comm _ _
        omega
      omega
theorem w64_eq (z : Int) : wrap64 z = w64 z := by
  unfold w64 wrap64; rw [IntKind.wrap_i64]
set_option maxHeartbeats 2000000 in
theorem product_any (a b : Int) (w : World) (ha : I64 a) (hb : I64 b) (q : Bool) (hq : fitB (a * b) = q) (p : Int) (hp : w64 (a * b) = p) :
    Calls Try.prog 47 #[.int .i64 a, .int .i64 b] w fun e w' => e = .returned (.tuple #[.int .i64 p, .bool q]) ∧ Below w.heap.size w w' := by
  by_cases h0 : a = 0 ∨ b = 0
  · have hz : a * b = 0 := by rcases h0 with rfl | rfl <;> simp
    have hp0 : p = 0 := by rw [← hp, hz]; decide
    have hq0 : q = true := by rw [← hq, hz]; decide
    subst hp0
    subst hq0
    clear hp hq hz
    by_cases h1 : a = 0
    · have e1 : (a == 0) = true := by simp [h1]
      clear h0 h1
      have HB := Lib.hid (Below.refl w.heap.size w)
      go_enter Try.func47, Try.ntmps47
      go_wp2_with fail
      go_ret2
      exact ⟨rfl, HB.out⟩
    · have e1 : (a == 0) = false := by simp [h1]
      have e2 : (b == 0) = true := by simp; omega
      clear h0 h1
      have HB := Lib.hid (Below.refl w.heap.size w)
      go_enter Try.func47, Try.ntmps47
      go_wp2_with fail
      go_ret2
      exact ⟨rfl, HB.out⟩
  · have e1 : (a == 0) = false := by simp; omega
    have e2 : (b == 0) = false := by simp; omega
    have hb0 : b ≠ 0 := by omega
    have HW := Lib.hid (w64_eq (a * b))
    rw [hp] at HW
    have hmm := fun h1 h2 => mul_back a b ha hb hb0 h1 h2
    rw [hp, hq] at hmm
    have HM := Lib.hid hmm
    have HQ := Lib.hid hq
    clear hp hq hmm h0 ha hb
    by_cases h12 : a = -1 ∧ b = -9223372036854775808
    · have HR : Hid (q = false) := by rw [← HQ.out, h12.1, h12.2]; show _ = _; decide
      have t1 : (a == -1) = true := by simp [h12.1]
      have t2 : (b == -9223372036854775808) = true := by simp [h12.2]
      clear HM HQ h12
      have HB := Lib.hid (Below.refl w.heap.size w)
      go_enter Try.func47, Try.ntmps47
      go_wp2_with fail
      rw [HW.out]
      refine Agg.chainR 25 (by kernel_rfl) (by kernel_rfl) ?_
      simp only [List.take_succ_cons, List.take_zero, List.drop_succ_cons, List.drop_zero]
      refine Agg.chMove rfl rfl rfl rfl ?_
      refine Agg.chMove rfl rfl rfl rfl ?_
      refine Agg.chEq true (by assumption) rfl rfl rfl rfl rfl ?_
      refine Agg.chMove rfl rfl rfl rfl ?_
      refine Agg.chMove rfl rfl rfl rfl ?_
      refine Agg.chEq true (by assumption) rfl rfl rfl rfl rfl ?_
      refine Agg.chPick rfl rfl rfl rfl rfl ?_
      refine Agg.chMove rfl rfl rfl rfl ?_
      refine Agg.chSkip rfl rfl ?_
      refine Agg.chSkip rfl rfl ?_
      refine Agg.chSkip rfl rfl ?_
      refine Agg.chSkip rfl rfl ?_
      refine Agg.chSkip rfl rfl ?_
      refine Agg.chSkip rfl rfl ?_
      refine Agg.chPick rfl rfl rfl rfl rfl ?_
      refine Agg.chNot rfl rfl rfl rfl ?_
      refine Agg.chMove rfl rfl rfl rfl ?_
      refine Agg.chSkip rfl rfl ?_
      refine Agg.chSkip rfl rfl ?_
      refine Agg.chSkip rfl rfl ?_
      refine Agg.chSkip rfl rfl ?_
      refine Agg.chSkip rfl rfl ?_
      refine Agg.chPick rfl rfl rfl rfl rfl ?_
      refine Agg.chAssign rfl rfl rfl rfl ?_
      refine Agg.chAssign rfl rfl rfl rfl ?_
      refine Agg.chEnd ?_
      intro vs w1 hb _
      refine Agg.wpNil ?_
      simp only [List.reverse, List.reverseAux, Agg.fill, List.set_cons_succ, List.set_cons_zero]
      replace HB := Lib.hid (HB.out.trans (hb.mono HB.out.size))
      clear hb
      go_wp2_with fail
      go_ret2
      exact ⟨by rw [HR.out]; rfl, HB.out⟩
    · by_cases h34 : b = -1 ∧ a = -9223372036854775808
      · have HR : Hid (q = false) := by rw [← HQ.out, h34.1, h34.2]; show _ = _; decide
        have t1 : (a == -1) = false := by simp [h34.2]
        have t3 : (b == -1) = true := by simp [h34.1]
        have t4 : (a == -9223372036854775808) = true := by simp [h34.2]
        clear HM HQ h12 h34
        have HB := Lib.hid (Below.refl w.heap.size w)
        go_enter Try.func47, Try.ntmps47
        go_wp2_with fail
        rw [HW.out]
        refine Agg.chainR 25 (by kernel_rfl) (by kernel_rfl) ?_
        simp only [List.take_succ_cons, List.take_zero, List.drop_succ_cons, List.drop_zero]
        refine Agg.chMove rfl rfl rfl rfl ?_
        refine Agg.chMove rfl rfl rfl rfl ?_
        refine Agg.chEq false (by assumption) rfl rfl rfl rfl rfl ?_
        refine Agg.chMove rfl rfl rfl rfl ?_
        refine Agg.chSkip rfl rfl ?_
        refine Agg.chSkip rfl rfl ?_
        refine Agg.chPick rfl rfl rfl rfl rfl ?_
        refine Agg.chMove rfl rfl rfl rfl ?_
        refine Agg.chMove rfl rfl rfl rfl ?_
        refine Agg.chEq true (by assumption) rfl rfl rfl rfl rfl ?_
        refine Agg.chMove rfl rfl rfl rfl ?_
        refine Agg.chMove rfl rfl rfl rfl ?_
        refine Agg.chEq true (by assumption) rfl rfl rfl rfl rfl ?_
        refine Agg.chPick rfl rfl rfl rfl rfl ?_
        refine Agg.chPick rfl rfl rfl rfl rfl ?_
        refine Agg.chNot rfl rfl rfl rfl ?_
        refine Agg.chMove rfl rfl rfl rfl ?_
        refine Agg.chSkip rfl rfl ?_
        refine Agg.chSkip rfl rfl ?_
        refine Agg.chSkip rfl rfl ?_
        refine Agg.chSkip rfl rfl ?_
        refine Agg.chSkip rfl rfl ?_
        refine Agg.chPick rfl rfl rfl rfl rfl ?_
        refine Agg.chAssign rfl rfl rfl rfl ?_
        refine Agg.chAssign rfl rfl rfl rfl ?_
        refine Agg.chEnd ?_
        intro vs w1 hb _
        refine Agg.wpNil ?_
        simp only [List.reverse, List.reverseAux, Agg.fill, List.set_cons_succ, List.set_cons_zero]
        replace HB := Lib.hid (HB.out.trans (hb.mono HB.out.size))
        clear hb
        go_wp2_with fail
        go_ret2
        exact ⟨by rw [HR.out]; rfl, HB.out⟩
      · have HR : Hid ((IntKind.i64.wrap (p.tdiv b) == a) = q) := Lib.hid (HM.out h12 h34)
        by_cases h1 : a = -1
        · have t1 : (a == -1) = true := by simp [h1]
          have t2 : (b == -9223372036854775808) = false := by simp; omega
          by_cases h3 : b = -1
          · have t3 : (b == -1) = true := by simp [h3]
            have t4 : (a == -9223372036854775808) = false := by simp; omega
            clear h1 h3 h12 h34
            clear HM HQ
            have HB := Lib.hid (Below.refl w.heap.size w)
            go_enter Try.func47, Try.ntmps47
            go_wp2_with fail
            rw [HW.out]
            refine Agg.chainR 25 (by kernel_rfl) (by kernel_rfl) ?_
            simp only [List.take_succ_cons, List.take_zero, List.drop_succ_cons, List.drop_zero]
            refine Agg.chMove rfl rfl rfl rfl ?_
            refine Agg.chMove rfl rfl rfl rfl ?_
            refine Agg.chEq true (by assumption) rfl rfl rfl rfl rfl ?_
            refine Agg.chMove rfl rfl rfl rfl ?_
            refine Agg.chMove rfl rfl rfl rfl ?_
            refine Agg.chEq false (by assumption) rfl rfl rfl rfl rfl ?_
            refine Agg.chPick rfl rfl rfl rfl rfl ?_
            refine Agg.chMove rfl rfl rfl rfl ?_
            refine Agg.chMove rfl rfl rfl rfl ?_
            refine Agg.chEq true (by assumption) rfl rfl rfl rfl rfl ?_
            refine Agg.chMove rfl rfl rfl rfl ?_
            refine Agg.chMove rfl rfl rfl rfl ?_
            refine Agg.chEq false (by assumption) rfl rfl rfl rfl rfl ?_
            refine Agg.chPick rfl rfl rfl rfl rfl ?_
            refine Agg.chPick rfl rfl rfl rfl rfl ?_
            refine Agg.chNot rfl rfl rfl rfl ?_
            refine Agg.chMove rfl rfl rfl rfl ?_
            refine Agg.chMove rfl rfl rfl rfl ?_
            refine Agg.chMove rfl rfl rfl rfl ?_
            refine Agg.chQuo _ rfl rfl rfl hb0 rfl rfl rfl ?_
            refine Agg.chMove rfl rfl rfl rfl ?_
            refine Agg.chEq _ HR.out rfl rfl rfl rfl rfl ?_
            refine Agg.chPick rfl rfl rfl rfl rfl ?_
            refine Agg.chAssign rfl rfl rfl rfl ?_
            refine Agg.chAssign rfl rfl rfl rfl ?_
            refine Agg.chEnd ?_
            intro vs w1 hb _
            refine Agg.wpNil ?_
            simp only [List.reverse, List.reverseAux, Agg.fill, List.set_cons_succ, List.set_cons_zero]
            replace HB := Lib.hid (HB.out.trans (hb.mono HB.out.size))
            clear hb
            go_wp2_with fail
            go_ret2
            exact ⟨rfl, HB.out⟩
          · have t3 : (b == -1) = false := by simp [h3]
            clear h1 h3 h12 h34
            clear HM HQ
            have HB := Lib.hid (Below.refl w.heap.size w)
            go_enter Try.func47, Try.ntmps47
            go_wp2_with fail
            rw [HW.out]
            refine Agg.chainR 25 (by kernel_rfl) (by kernel_rfl) ?_
            simp only [List.take_succ_cons, List.take_zero, List.drop_succ_cons, List.drop_zero]
            refine Agg.chMove rfl rfl rfl rfl ?_
            refine Agg.chMove rfl rfl rfl rfl ?_
            refine Agg.chEq true (by assumption) rfl rfl rfl rfl rfl ?_
            refine Agg.chMove rfl rfl rfl rfl ?_
            refine Agg.chMove rfl rfl rfl rfl ?_
            refine Agg.chEq false (by assumption) rfl rfl rfl rfl rfl ?_
            refine Agg.chPick rfl rfl rfl rfl rfl ?_
            refine Agg.chMove rfl rfl rfl rfl ?_
            refine Agg.chMove rfl rfl rfl rfl ?_
            refine Agg.chEq false (by assumption) rfl rfl rfl rfl rfl ?_
            refine Agg.chMove rfl rfl rfl rfl ?_
            refine Agg.chSkip rfl rfl ?_
            refine Agg.chSkip rfl rfl ?_
            refine Agg.chPick rfl rfl rfl rfl rfl ?_
            refine Agg.chPick rfl rfl rfl rfl rfl ?_
            refine Agg.chNot rfl rfl rfl rfl ?_
            refine Agg.chMove rfl rfl rfl rfl ?_
            refine Agg.chMove rfl rfl rfl rfl ?_
            refine Agg.chMove rfl rfl rfl rfl ?_
            refine Agg.chQuo _ rfl rfl rfl hb0 rfl rfl rfl ?_
            refine Agg.chMove rfl rfl rfl rfl ?_
            refine Agg.chEq _ HR.out rfl rfl rfl rfl rfl ?_
            refine Agg.chPick rfl rfl rfl rfl rfl ?_
            refine Agg.chAssign rfl rfl rfl rfl ?_
            refine Agg.chAssign rfl rfl rfl rfl ?_
            refine Agg.chEnd ?_
            intro vs w1 hb _
            refine Agg.wpNil ?_
            simp only [List.reverse, List.reverseAux, Agg.fill, List.set_cons_succ, List.set_cons_zero]
            replace HB := Lib.hid (HB.out.trans (hb.mono HB.out.size))
            clear hb
            go_wp2_with fail
            go_ret2
            exact ⟨rfl, HB.out⟩
        · have t1 : (a == -1) = false := by simp [h1]
          by_cases h3 : b = -1
          · have t3 : (b == -1) = true := by simp [h3]
            have t4 : (a == -9223372036854775808) = false := by simp; omega
            clear h1 h3 h12 h34
            clear HM HQ
            have HB := Lib.hid (Below.refl w.heap.size w)
            go_enter Try.func47, Try.ntmps47
            go_wp2_with fail
            rw [HW.out]
            refine Agg.chainR 25 (by kernel_rfl) (by kernel_rfl) ?_
            simp only [List.take_succ_cons, List.take_zero, List.drop_succ_cons, List.drop_zero]
            refine Agg.chMove rfl rfl rfl rfl ?_
            refine Agg.chMove rfl rfl rfl rfl ?_
            refine Agg.chEq false (by assumption) rfl rfl rfl rfl rfl ?_
            refine Agg.chMove rfl rfl rfl rfl ?_
            refine Agg.chSkip rfl rfl ?_
            refine Agg.chSkip rfl rfl ?_
            refine Agg.chPick rfl rfl rfl rfl rfl ?_
            refine Agg.chMove rfl rfl rfl rfl ?_
            refine Agg.chMove rfl rfl rfl rfl ?_
            refine Agg.chEq true (by assumption) rfl rfl rfl rfl rfl ?_
            refine Agg.chMove rfl rfl rfl rfl ?_
            refine Agg.chMove rfl rfl rfl rfl ?_
            refine Agg.chEq false (by assumption) rfl rfl rfl rfl rfl ?_
            refine Agg.chPick rfl rfl rfl rfl rfl ?_
            refine Agg.chPick rfl rfl rfl rfl rfl ?_
            refine Agg.chNot rfl rfl rfl rfl ?_
            refine Agg.chMove rfl rfl rfl rfl ?_
            refine Agg.chMove rfl rfl rfl rfl ?_
            refine Agg.chMove rfl rfl rfl rfl ?_
            refine Agg.chQuo _ rfl rfl rfl hb0 rfl rfl rfl ?_
            refine Agg.chMove rfl rfl rfl rfl ?_
            refine Agg.chEq _ HR.out rfl rfl rfl rfl rfl ?_
            refine Agg.chPick rfl rfl rfl rfl rfl ?_
            refine Agg.chAssign rfl rfl rfl rfl ?_
            refine Agg.chAssign rfl rfl rfl rfl ?_
            refine Agg.chEnd ?_
            intro vs w1 hb _
            refine Agg.wpNil ?_
            simp only [List.reverse, List.reverseAux, Agg.fill, List.set_cons_succ, List.set_cons_zero]
            replace HB := Lib.hid (HB.out.trans (hb.mono HB.out.size))
            clear hb
            go_wp2_with fail
            go_ret2
            exact ⟨rfl, HB.out⟩
          · have t3 : (b == -1) = false := by simp [h3]
            clear h1 h3 h12 h34
            clear HM HQ
            have HB := Lib.hid (Below.refl w.heap.size w)
            go_enter Try.func47, Try.ntmps47
            go_wp2_with fail
            rw [HW.out]
            refine Agg.chainR 25 (by kernel_rfl) (by kernel_rfl) ?_
            simp only [List.take_succ_cons, List.take_zero, List.drop_succ_cons, List.drop_zero]
            refine Agg.chMove rfl rfl rfl rfl ?_
            refine Agg.chMove rfl rfl rfl rfl ?_
            refine Agg.chEq false (by assumption) rfl rfl rfl rfl rfl ?_
            refine Agg.chMove rfl rfl rfl rfl ?_
            refine Agg.chSkip rfl rfl ?_
            refine Agg.chSkip rfl rfl ?_
            refine Agg.chPick rfl rfl rfl rfl rfl ?_
            refine Agg.chMove rfl rfl rfl rfl ?_
            refine Agg.chMove rfl rfl rfl rfl ?_
            refine Agg.chEq false (by assumption) rfl rfl rfl rfl rfl ?_
            refine Agg.chMove rfl rfl rfl rfl ?_
            refine Agg.chSkip rfl rfl ?_
            refine Agg.chSkip rfl rfl ?_
            refine Agg.chPick rfl rfl rfl rfl rfl ?_
            refine Agg.chPick rfl rfl rfl rfl rfl ?_
            refine Agg.chNot rfl rfl rfl rfl ?_
            refine Agg.chMove rfl rfl rfl rfl ?_
            refine Agg.chMove rfl rfl rfl rfl ?_
            refine Agg.chMove rfl rfl rfl rfl ?_
            refine Agg.chQuo _ rfl rfl rfl hb0 rfl rfl rfl ?_
            refine Agg.chMove rfl rfl rfl rfl ?_
            refine Agg.chEq _ HR.out rfl rfl rfl rfl rfl ?_
            refine Agg.chPick rfl rfl rfl rfl rfl ?_
            refine Agg.chAssign rfl rfl rfl rfl ?_
            refine Agg.chAssign rfl rfl rfl rfl ?_
            refine Agg.chEnd ?_
            intro vs w1 hb _
            refine Agg.wpNil ?_
            simp only [List.reverse, List.reverseAux, Agg.fill, List.set_cons_succ, List.set_cons_zero]
            replace HB := Lib.hid (HB.out.trans (hb.mono HB.out.size))
            clear hb
            go_wp2_with fail
            go_ret2
            exact ⟨rfl, HB.out⟩
end Go.Proofs.Ytcedalenjcbnmaa
