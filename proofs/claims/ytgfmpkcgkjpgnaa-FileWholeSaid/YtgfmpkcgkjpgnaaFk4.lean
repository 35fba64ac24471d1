/-
  FILES: what is got behind a crash, in plain Lean.
-/
import Derived.Test.YtgfmpkcgkjpgnaaFk2
import Derived.Test.YtgfmpkcgkjpgnaaFpPgE
namespace Go.Proofs.Ytgfmpkcgkjpgnaa
open Go.ChangeShapes Go.WideShapes Go.ChangeAt Go.RowKit Agg Pg Dv Fi

theorem readR_zero {b : List Sec} (h : (readR b).2.2 = 0) : stampB b = true ∧ (readR b).2.1 = st0 b := by
  unfold readR at h ⊢
  split at h
  · rename_i h1
    split at h
    · rename_i h2
      split at h
      · rename_i h3
        rw [if_pos h1, if_pos h2, if_pos h3]
        exact ⟨h1, rfl⟩
      · exact absurd h (by decide)
    · exact absurd h (by decide)
  · exact absurd h (by decide)
theorem stamp_all {b : List Sec} (h : stampB b = true) : ∀ s ∈ b, s.1 = st0 b := by
  simp only [stampB, Bool.and_eq_true, decide_eq_true_eq, List.all_eq_true, beq_iff_eq] at h
  exact h.2
theorem st0_mem {b : List Sec} (h : b.length = 4) : ∃ s ∈ b, s.1 = st0 b := by
  match b, h with
  | [a, b, c, d], _ => exact ⟨a, by simp, rfl⟩
structure WholeF (D : Dev) (A : List Int) (kind : Int) (B : List UInt8) (M : List Int) (N C : Dev) : Prop where
  crash : crashP N M = (0, C)
  good : DGood C
  len : C.cache.length ≤ 40
  all : (∀ m ∈ M, m = 15) → fGet C A kind B.length = (B, 0)
  none : (∀ m ∈ M, m = 0) → fGet C A kind B.length = fGet D A kind B.length
  mid : ¬ (∀ m ∈ M, m = 15) → ¬ (∀ m ∈ M, m = 0) → fGet C A kind B.length = ([], 300)
theorem whole_facts {D : Dev} {A : List Int} {kind : Int} {n : Nat} {B : List UInt8} (hp : PowD D) (hg : DGood D) (hc : D.cache = []) (hal : A.length ≤ 20) (hn1 : n = grB D.pages + 1) (hn2 : n + A.length ≤ 4611686018427387905) (hm : mayB A kind B.length D.pages.length = true) (M : List Int) (hMl : M.length = A.length) (hM : ∀ m ∈ M, 0 ≤ m ∧ m < 16) : WholeF D A kind B M (addD D (blksF kind n B 0 A)) (crD (addD D (blksF kind n B 0 A)) M) := by
  obtain ⟨h1, h2⟩ := fPut_pow hp hm (show 1 ≤ n by omega) hn2
  have hth := may_there hm
  have hgN : DGood (addD D (blksF kind n B 0 A)) := addD_good hg (blksF_bok _ _ _ _ 0 (by omega)) (fun x hx => hth _ (blksF_key hx))
  obtain ⟨c1, c2⟩ := crash_do h2.1 (ms := M) (by
    unfold masksB
    rw [List.all_eq_true]
    intro m hm
    have := hM m hm
    simp; omega)
  have hgC : DGood (crD (addD D (blksF kind n B 0 A)) M) := by
    have := crashP_good hgN M
    rw [c1] at this
    exact this
  have hlp : (crD (addD D (blksF kind n B 0 A)) M).pages.length = D.pages.length := settleBy_len _ _ _
  obtain ⟨C, hC⟩ : ∃ C, crD (addD D (blksF kind n B 0 A)) M = C := ⟨_, rfl⟩
  have hnd := may_nodup hm
  have hbk := mayB_facts hm
  have hap : 0 < A.length := by
    have := hbk.2.1
    have h3 := hbk.1
    unfold needN at this
    split at this <;> omega
  have hthp : ∀ i (h : i < A.length), ∃ p : Nat, A[i] = (p : Int) ∧ p < D.pages.length := fun i h => by
    have := hth _ (List.getElem_mem h)
    simp only [thereB, Bool.and_eq_true, decide_eq_true_eq] at this
    exact ⟨A[i].toNat, by omega, by omega⟩
  have hpos : ∀ a ∈ A, 0 ≤ a := fun a ha => by
    have := hth _ ha
    simp only [thereB, Bool.and_eq_true, decide_eq_true_eq] at this
    omega
  -- what is read behind the crash
  have hrd : ∀ i (h : i < A.length), readP C A[i] = (0, mixB (D.pages.getD A[i].toNat zeroB) (layB kind (partB B i) (n + i)) (M[i]'(by omega))) := fun i h => by
    obtain ⟨p, e, hpl⟩ := hthp i h
    rw [← hC, read_pow c2.1 c2.2.1 (k := A[i]) (by rw [hlp]; exact hth _ (List.getElem_mem h))]
    congr 1
    show (settleBy D.pages (D.cache ++ blksF kind n B 0 A) M).getD A[i].toNat zeroB = _
    have hno := nodup_off hnd i h
    rw [hc, List.nil_append, blksF_split kind n B A i h]
    have hl1 : (blksF kind n B 0 (A.take i)).length = i := by rw [blksF_length, List.length_take]; omega
    have k := settleBy_at D.pages (blksF kind n B 0 (A.take i)) (blksF kind n B (i + 1) (A.drop (i + 1))) M p (layB kind (partB B i) (n + i)) hpl
      (fun x hx => ⟨hpos _ (List.mem_of_mem_take (blksF_key hx)), by rw [← e]; exact hno.1 _ (blksF_key hx)⟩)
      (fun x hx => ⟨hpos _ (List.mem_of_mem_drop (blksF_key hx)), by rw [← e]; exact hno.2 _ (blksF_key hx)⟩)
    rw [hl1, List.getElem?_eq_getElem (by omega)] at k
    rw [e, Int.toNat_natCast]
    exact k
  have hro : ∀ i (h : i < A.length), readP D A[i] = (0, D.pages.getD A[i].toNat zeroB) := fun i h => by
    rw [read_pow hp.1 hp.2.1 (k := A[i]) (hth _ (List.getElem_mem h)), hc]
    rfl
  have hob : ∀ i (h : i < A.length), D.pages.getD A[i].toNat zeroB ∈ D.pages := fun i h => by
    obtain ⟨p, e, hpl⟩ := hthp i h
    rw [e, Int.toNat_natCast, List.getD_eq_getElem?_getD, List.getElem?_eq_getElem hpl, Option.getD_some]
    exact List.getElem_mem hpl
  have hst : ∀ i (h : i < A.length), ∀ s ∈ D.pages.getD A[i].toNat zeroB, s.1 < n := fun i h s hs => by
    have := le_grS D.pages.flatten s (List.mem_flatten.2 ⟨_, hob i h, hs⟩)
    have e : grB D.pages = grS D.pages.flatten := rfl
    omega
  have ho4 : ∀ i (h : i < A.length), (D.pages.getD A[i].toNat zeroB).length = 4 := fun i h => (hg.pages _ (hob i h)).1
  have hn4 : ∀ i, (layB kind (partB B i) (n + i)).length = 4 := fun i => (layB_ok _ _ _ (partB_len B i)).1
  have hfc := fGet_pow c2 (A := A) (kind := kind) (bytes := B.length) (by rw [hlp]; exact hm)
  have hfd := fGet_pow hp (A := A) (kind := kind) (bytes := B.length) hm
  rw [hC] at hfc hgC c1 ⊢
  refine ⟨c1, hgC, by rw [← hC]; simp [crD], fun ha => ?_, fun ha => ?_, fun hna hnz => ?_⟩
  · rw [hfc]
    refine gets_all hbk.2.2.1 (show 1 ≤ n by omega) hn2 hbk.2.1 (fun i h => ?_)
    rw [hrd i h, ha _ (List.getElem_mem _), mixB_all _ _ (hn4 i)]
  · rw [hfc, hfd]
    refine gets_same A 0 0 [] (fun a h => ?_)
    obtain ⟨i, hi, rfl⟩ := List.getElem_of_mem h
    rw [hrd i hi, hro i hi, ha _ (List.getElem_mem _), mixB_none _ _ (ho4 i hi)]
  · rw [hfc]
    have hA : ∀ a ∈ A, (readP C a).1 = 0 := fun a h => by
      obtain ⟨i, hi, rfl⟩ := List.getElem_of_mem h
      rw [hrd i hi]
    refine (gets_two A 0 0 [] hA).resolve_left (fun hz => ?_)
    have hinv := gets_inv0 hA hap hz
    have hpg : ∀ i (h : i < A.length), ∃ s : Nat, s = (readR (readP C A[0]).2).2.1 + i ∧ stampB (mixB (D.pages.getD A[i].toNat zeroB) (layB kind (partB B i) (n + i)) (M[i]'(by omega))) = true ∧ st0 (mixB (D.pages.getD A[i].toNat zeroB) (layB kind (partB B i) (n + i)) (M[i]'(by omega))) = s := fun i h => by
      obtain ⟨z1, _, z3⟩ := hinv i h
      obtain ⟨y1, y2⟩ := readR_zero z1
      rw [hrd i h] at y1 y2 z3
      exact ⟨_, rfl, y1, by rw [← y2]; exact z3⟩
    have hmm : ∀ i (h : i < A.length), M[i]'(by omega) = 0 ∨ M[i]'(by omega) = 15 := fun i h => by
      by_cases e0 : M[i]'(by omega) = 0
      · exact .inl e0
      by_cases e15 : M[i]'(by omega) = 15
      · exact .inr e15
      exfalso
      obtain ⟨s, _, y1, _⟩ := hpg i h
      have hr := hM _ (List.getElem_mem (show i < M.length by omega))
      have := torn (D.pages.getD A[i].toNat zeroB) (layB kind (partB B i) (n + i)) (M[i]'(by omega)) (n + i) hr.1 hr.2 e0 e15 (ho4 i h) (hn4 i) (fun s hs => by have := hst i h s hs; omega) (fun s hs => by
        simp only [layB, secsOf, List.mem_cons, List.not_mem_nil, or_false] at hs
        rcases hs with rfl | rfl | rfl | rfl <;> rfl)
      rw [this] at y1
      exact absurd y1 (by decide)
    obtain ⟨i, hi, ei⟩ : ∃ i, ∃ h : i < A.length, M[i]'(by omega) = 15 := by
      refine Classical.byContradiction fun hno => hnz fun m hm => ?_
      obtain ⟨i, hi, rfl⟩ := List.getElem_of_mem hm
      exact (hmm i (by omega)).resolve_right (fun e => hno ⟨i, by omega, e⟩)
    obtain ⟨j, hj, ej⟩ : ∃ j, ∃ h : j < A.length, M[j]'(by omega) = 0 := by
      refine Classical.byContradiction fun hno => hna fun m hm => ?_
      obtain ⟨i, hi, rfl⟩ := List.getElem_of_mem hm
      exact (hmm i (by omega)).resolve_left (fun e => hno ⟨i, by omega, e⟩)
    obtain ⟨s, es, _, ys⟩ := hpg i hi
    obtain ⟨t, et, _, yt⟩ := hpg j hj
    rw [ei, mixB_all _ _ (hn4 i)] at ys
    rw [ej, mixB_none _ _ (ho4 j hj)] at yt
    have e1 : st0 (layB kind (partB B i) (n + i)) = n + i := rfl
    obtain ⟨u, hu, eu⟩ := st0_mem (ho4 j hj)
    have := hst j hj u hu
    omega
end Go.Proofs.Ytgfmpkcgkjpgnaa
