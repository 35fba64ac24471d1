/-
  LAYER 4's STATEMENT SpanAdds, the plain law: sums and multiples of small spans. No program.
-/
import Derived.Test.YtcedalenjcbnmaaSpanP1
namespace Go.Proofs.Ytcedalenjcbnmaa
def smZ (n : Int) : Int := n.tmod 1125899906842624
def smS (s : Sp) : Sp := (min (smZ s.1) (smZ s.2), max (smZ s.1) (smZ s.2))
def SmOk (s : Sp) : Prop := -1125899906842624 < s.1 ∧ s.1 ≤ s.2 ∧ s.2 < 1125899906842624
theorem smZ_in (n : Int) : -1125899906842624 < smZ n ∧ smZ n < 1125899906842624 := by
  unfold smZ
  have h : (n.tmod 1125899906842624).natAbs < (1125899906842624 : Int).natAbs := by rw [Int.natAbs_tmod]; exact Nat.mod_lt _ (by decide)
  have e : (1125899906842624 : Int).natAbs = 1125899906842624 := rfl
  omega
theorem smS_ok (s : Sp) : SmOk (smS s) := by
  have h1 := smZ_in s.1
  have h2 := smZ_in s.2
  unfold SmOk smS
  simp only
  omega
/-- the numbers that are told in the spans L, by the first guess's number -/
def addV (t : Int) (L : List Sp) : List Int := L.mapIdx fun i s => liesI (s, (t + i) % 18446744073709551616)
theorem addV_length (t : Int) (L : List Sp) : (addV t L).length = L.length := by simp [addV]
theorem addV_get (t : Int) (L : List Sp) (k : Nat) (h : k < L.length) : (addV t L)[k]'(by rw [addV_length]; exact h) = liesI (L[k], (t + k) % 18446744073709551616) := by
  simp [addV]
theorem addV_in (t : Int) (L : List Sp) (k : Nat) (h : k < L.length) (hs : SmOk L[k]) : L[k].1 ≤ (addV t L)[k]'(by rw [addV_length]; exact h) ∧ (addV t L)[k]'(by rw [addV_length]; exact h) ≤ L[k].2 := by
  rw [addV_get t L k h]
  unfold SmOk at hs
  exact lies_in _ ⟨by unfold I64; simp only; omega, by unfold I64; simp only; omega, Int.emod_nonneg _ (by decide), Int.emod_lt_of_pos _ (by decide)⟩ hs.2.1
def mix (A L : List Sp) (k : Nat) : List Sp := A.take k ++ L.drop k
theorem mix_zero (A L : List Sp) : mix A L 0 = L := by simp [mix]
theorem mix_all (A L : List Sp) (h : A.length = L.length) : mix A L L.length = A := by simp [mix, ← h]
theorem mix_length (A L : List Sp) (h : A.length = L.length) (k : Nat) (hk : k ≤ L.length) : (mix A L k).length = L.length := by simp [mix]; omega
theorem mix_get (A L : List Sp) (h : A.length = L.length) (k : Nat) (hk : k < L.length) : (mix A L k)[k]'(by rw [mix_length A L h k (by omega)]; exact hk) = L[k] := by
  simp only [mix]
  rw [List.getElem_append_right (by simp; omega)]
  have : k - (A.take k).length = 0 := by simp; omega
  simp only [this, List.getElem_drop, Nat.add_zero]
theorem mix_set (A L : List Sp) (h : A.length = L.length) (k : Nat) (hk : k < L.length) : (mix A L k).set k (A[k]'(by omega)) = mix A L (k + 1) := by
  simp only [mix]
  have hl : (A.take k).length = k := by simp; omega
  rw [List.set_append_right _ _ (by omega), hl, Nat.sub_self]
  have e : L.drop k = L[k] :: L.drop (k + 1) := (List.drop_eq_getElem_cons hk)
  rw [e, List.set_cons_zero, List.take_succ_eq_append_getElem (by omega), List.append_assoc]; rfl
theorem spC_set (l : List Sp) : ∀ (k : Nat) (_ : k < l.length) (s : Sp), ((spC l).set (k * 2) (.int .i64 s.1)).set (k * 2 + 1) (.int .i64 s.2) = spC (l.set k s) := by
  induction l with
  | nil => intro k h; simp at h
  | cons a l ih =>
    intro k h s
    cases k with
    | zero => rfl
    | succ k =>
      rw [spC_cons, List.set_cons_succ, spC_cons, show (k + 1) * 2 = k * 2 + 1 + 1 by omega, List.set_cons_succ, List.set_cons_succ, List.set_cons_succ, List.set_cons_succ, ih k (by simpa using h)]
def sumV (V : List Int) (k : Nat) : Int := (V.take k).sum
def widS (L : List Sp) (k : Nat) : Int := ((L.take k).map fun s => s.2 - s.1).sum
theorem sumV_succ (V : List Int) (k : Nat) (h : k < V.length) : sumV V (k + 1) = sumV V k + V[k] := by
  unfold sumV
  rw [List.take_succ_eq_append_getElem h, List.sum_append]; simp
theorem widS_succ (L : List Sp) (k : Nat) (h : k < L.length) : widS L (k + 1) = widS L k + (L[k].2 - L[k].1) := by
  unfold widS
  rw [List.take_succ_eq_append_getElem h, List.map_append, List.sum_append]; simp
theorem sums_in (t : Int) (L : List Sp) (hL : ∀ s ∈ L, SmOk s) : ∀ k, k ≤ L.length →
    sumE false (L.take k) ≤ sumV (addV t L) k ∧ sumV (addV t L) k ≤ sumE true (L.take k) ∧ widS L k = sumE true (L.take k) - sumE false (L.take k) ∧
    -(k : Int) * 1125899906842624 ≤ sumE false (L.take k) ∧ sumE true (L.take k) ≤ k * 1125899906842624 := by
  intro k
  induction k with
  | zero => intro _; simp [sumE, sumV, widS]
  | succ k ih =>
    intro hk
    have h := ih (by omega)
    have hs := hL _ (List.getElem_mem (show k < L.length by omega))
    have hv := addV_in t L k (by omega) hs
    unfold SmOk at hs
    rw [sumE_succ _ _ _ (by omega), sumE_succ _ _ _ (by omega), sumV_succ _ _ (by rw [addV_length]; omega), widS_succ _ _ (by omega)]
    simp only [endF] at *
    omega
/-- what the statement asks of one small span, what lies in it, and a factor -/
theorem times_plain (s : Sp) (v m : Int) (hs : SmOk s) (h1 : s.1 ≤ v) (h2 : v ≤ s.2) (hm : -1000 < m ∧ m < 1000) :
    ∃ t b : Sp, timesR s m = (t, 0) ∧ timesR t (-1) = (b, 0) ∧ timesR s (-m) = (b, 0) ∧ hasB t (v * m) = true ∧ widthI t = (s.2 - s.1) * max m (-m) ∧ I64 t.1 ∧ I64 t.2 ∧ I64 (v * m) ∧
      0 ≤ (s.2 - s.1) * max m (-m) ∧ (s.2 - s.1) * max m (-m) < 18446744073709551616 := by
  obtain ⟨a, b⟩ := s
  unfold SmOk at hs
  simp only at hs h1 h2 ⊢
  obtain ⟨m0, m1⟩ := hm
  have key : ∀ x : Int, -1125899906842624 < x → x < 1125899906842624 → -1125899906842624000 < x * m ∧ x * m < 1125899906842624000 := by
    intro x x0 x1
    rcases Int.le_total 0 m with h | h
    · have e1 : x * m ≤ 1125899906842624 * m := Int.mul_le_mul_of_nonneg_right (by omega) h
      have e2 : (-1125899906842624) * m ≤ x * m := Int.mul_le_mul_of_nonneg_right (by omega) h
      omega
    · have e1 : x * m ≤ (-1125899906842624) * m := Int.mul_le_mul_of_nonpos_right (by omega) h
      have e2 : 1125899906842624 * m ≤ x * m := Int.mul_le_mul_of_nonpos_right (by omega) h
      omega
  have ka := key a hs.1 (by omega)
  have kb := key b (by omega) hs.2.2
  have kv := key v (by omega) (by omega)
  have hw : (b - a) * m = b * m - a * m := Int.sub_mul b a m
  have hw2 : (b - a) * (-m) = -(b * m - a * m) := by rw [Int.mul_neg, hw]
  have ho : (a * m ≤ v * m ∧ v * m ≤ b * m ∧ 0 ≤ m) ∨ (b * m ≤ v * m ∧ v * m ≤ a * m ∧ m ≤ 0) := by
    rcases Int.le_total 0 m with h | h
    · exact .inl ⟨Int.mul_le_mul_of_nonneg_right h1 h, Int.mul_le_mul_of_nonneg_right h2 h, h⟩
    · exact .inr ⟨Int.mul_le_mul_of_nonpos_right h2 h, Int.mul_le_mul_of_nonpos_right h1 h, h⟩
  have hmax : (b - a) * max m (-m) = max (a * m) (b * m) - min (a * m) (b * m) := by
    rcases ho with ⟨q1, q2, h⟩ | ⟨q1, q2, h⟩
    · rw [show max m (-m) = m by omega, hw]; omega
    · rw [show max m (-m) = -m by omega, hw2]; omega
  have n1 : a * -m = -(a * m) := Int.mul_neg a m
  have n2 : b * -m = -(b * m) := Int.mul_neg b m
  refine ⟨(min (a * m) (b * m), max (a * m) (b * m)), (-max (a * m) (b * m), -min (a * m) (b * m)), ?_, ?_, ?_, ?_, ?_, ?_, ?_, ?_, ?_, ?_⟩
  · rw [timesR, if_neg (by simp only; omega), if_pos (by simp only [Bool.and_eq_true, fitB_true]; unfold I64; omega)]
  · generalize a * m = p at *
    generalize b * m = q at *
    rw [timesR, if_neg (by simp only; omega), if_pos (by simp only [Bool.and_eq_true, fitB_true]; unfold I64; omega)]
    simp only [Prod.mk.injEq, and_true]
    omega
  · rw [timesR, if_neg (by simp only; omega)]
    simp only [n1, n2]
    rw [if_pos (by simp only [Bool.and_eq_true, fitB_true]; unfold I64; omega)]
    simp only [Prod.mk.injEq, and_true]
    omega
  · simp only [hasB, Bool.and_eq_true, decide_eq_true_eq]; omega
  · rw [hmax]; unfold widthI; rw [if_neg (by simp only; omega)]
  · unfold I64; simp only; omega
  · unfold I64; simp only; omega
  · unfold I64; omega
  · rw [hmax]; omega
  · rw [hmax]; omega
theorem plus_plain (t : Int) (L : List Sp) (hL : ∀ s ∈ L, SmOk s) (h20 : L.length ≤ 20) :
    ∃ p : Sp, plusR L = (p, 0) ∧ hasB p (sumV (addV t L) L.length) = true ∧ widthI p = widS L L.length ∧ I64 p.1 ∧ I64 p.2 := by
  have h := sums_in t L hL L.length (Nat.le_refl _)
  rw [List.take_length] at h
  have hok : okAll L = true := by
    unfold okAll
    rw [List.all_eq_true]
    intro s hs
    have := hL s hs
    unfold SmOk at this
    simpa using this.2.1
  refine ⟨(sumE false L, sumE true L), ?_, ?_, ?_, ?_, ?_⟩
  · rw [plusR, if_pos hok, if_pos (by simp only [Bool.and_eq_true, fitB_true]; unfold I64; omega)]
  · simp only [hasB, Bool.and_eq_true, decide_eq_true_eq]; omega
  · unfold widthI; rw [if_neg (by simp only; omega)]; simp only; omega
  · unfold I64; simp only; omega
  · unfold I64; simp only; omega
end Go.Proofs.Ytcedalenjcbnmaa
