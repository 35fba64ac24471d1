/-
  BANDS and the constants that go through them, in plain Lean.
-/
import Derived.Test.YtchpkgneloiidaaRows
namespace Pm
abbrev Bd := Int × Int × Int
abbrev Spn := Int × Int
def maxT : Int := 281474976710656
def maxB : Int := 2305844108725321728
def backB (v : Int) : Bool := decide (-maxB ≤ v) && decide (v ≤ maxB)
def okBd (p : Int) (b : Bd) : Bool := decide (p < b.1) && decide (b.1 ≤ maxT) && decide (b.2.1 ≤ b.2.2) && backB b.2.1 && backB b.2.2
def chk : Int → List Bd → Bool
  | _, [] => true
  | p, b :: l => okBd p b && chk b.1 l
/-- which bands may be -/
def checkB (l : List Bd) : Bool := decide (1 ≤ l.length) && decide (l.length ≤ 256) && chk (-1) l
theorem okBd_iff (p : Int) (b : Bd) : okBd p b = true ↔ p < b.1 ∧ b.1 ≤ maxT ∧ b.2.1 ≤ b.2.2 ∧ -maxB ≤ b.2.1 ∧ b.2.2 ≤ maxB := by
  simp only [okBd, backB, Bool.and_eq_true, decide_eq_true_eq]
  omega
theorem chk_mono : ∀ (l : List Bd) (p q : Int), q ≤ p → chk p l = true → chk q l = true
  | [], _, _, _, _ => rfl
  | b :: l, p, q, h, hc => by
    simp only [chk, Bool.and_eq_true, okBd_iff] at hc ⊢
    exact ⟨by omega, hc.2⟩
theorem chk_drop : ∀ (j : Nat) (l : List Bd) (p : Int), chk p l = true → chk p (l.drop j) = true
  | 0, _, _, h => h
  | j + 1, [], _, _ => rfl
  | j + 1, b :: l, p, h => by
    simp only [chk, Bool.and_eq_true, okBd_iff] at h
    exact chk_drop j l p (chk_mono l b.1 p (by omega) h.2)
theorem chk_take : ∀ (j : Nat) (l : List Bd) (p : Int), chk p l = true → chk p (l.take j) = true
  | 0, _, _, _ => rfl
  | j + 1, [], _, _ => rfl
  | j + 1, b :: l, p, h => by
    simp only [List.take_succ_cons, chk, Bool.and_eq_true] at h ⊢
    exact ⟨h.1, chk_take j l b.1 h.2⟩
theorem chk_mem : ∀ (l : List Bd) (p : Int), chk p l = true → ∀ b ∈ l, okBd p b = true
  | [], _, _, b, h => by cases h
  | a :: l, p, h, b, hb => by
    simp only [chk, Bool.and_eq_true] at h
    rcases List.mem_cons.1 hb with rfl | hb
    · exact h.1
    · have h1 := (okBd_iff _ _).1 (chk_mem l a.1 h.2 b hb)
      have h2 := (okBd_iff _ _).1 h.1
      exact (okBd_iff _ _).2 (by omega)
/-- the ends of bands -/
def Okb (l : List Bd) : Prop := ∀ b ∈ l, b.2.1 ≤ b.2.2 ∧ -maxB ≤ b.2.1 ∧ b.2.2 ≤ maxB
theorem chk_okb {l : List Bd} {p : Int} (h : chk p l = true) : Okb l := fun b hb => by
  have := (okBd_iff _ _).1 (chk_mem l p h b hb); omega
theorem Okb.drop {l : List Bd} (h : Okb l) (j : Nat) : Okb (l.drop j) := fun b hb => h b (List.mem_of_mem_drop hb)
theorem Okb.take {l : List Bd} (h : Okb l) (j : Nat) : Okb (l.take j) := fun b hb => h b (List.mem_of_mem_take hb)
theorem check_part {l : List Bd} (h : checkB l = true) (i j : Nat) (h1 : 1 ≤ ((l.drop i).take j).length) : checkB ((l.drop i).take j) = true := by
  simp only [checkB, Bool.and_eq_true, decide_eq_true_eq] at h ⊢
  refine ⟨⟨h1, ?_⟩, chk_take _ _ _ (chk_drop _ _ _ h.2)⟩
  rw [List.length_take, List.length_drop]; omega
theorem check_len {l : List Bd} (h : checkB l = true) : 1 ≤ l.length ∧ l.length ≤ 256 ∧ chk (-1) l = true ∧ Okb l := by
  simp only [checkB, Bool.and_eq_true, decide_eq_true_eq] at h
  exact ⟨h.1.1, h.1.2, h.2, chk_okb h.2⟩
/-- a constant goes through bands -/
def Thr (l : List Bd) (v : Int) : Prop := ∀ b ∈ l, b.2.1 ≤ v ∧ v ≤ b.2.2
theorem thr_cons (b : Bd) (l : List Bd) (v : Int) : Thr (b :: l) v ↔ (b.2.1 ≤ v ∧ v ≤ b.2.2) ∧ Thr l v := by simp [Thr]
theorem thr_nil (v : Int) : Thr [] v := fun b h => by cases h
theorem thr_app (a b : List Bd) (v : Int) : Thr (a ++ b) v ↔ Thr a v ∧ Thr b v := by
  constructor
  · intro h; exact ⟨fun x hx => h x (List.mem_append_left _ hx), fun x hx => h x (List.mem_append_right _ hx)⟩
  · rintro ⟨h1, h2⟩ x hx
    rcases List.mem_append.1 hx with h | h
    · exact h1 x h
    · exact h2 x h
/-- what is common, one more band taken -/
def tk (c : Spn × Bool) (b : Bd) : Option Spn := if c.2 then (if max c.1.1 b.2.1 ≤ min c.1.2 b.2.2 then some (max c.1.1 b.2.1, min c.1.2 b.2.2) else none) else some (b.2.1, b.2.2)
def lg : Spn × Bool → Nat → List Bd → (Spn × Bool) × Nat
  | c, n, [] => (c, n)
  | c, n, b :: l => match tk c b with
    | some s => lg (s, true) (n + 1) l
    | none => (c, n)
def longest (l : List Bd) : (Spn × Bool) × Nat := lg ((0, 0), false) 0 l
theorem lg_spec : ∀ (l : List Bd) (s : Spn) (n : Nat), s.1 ≤ s.2 → ∃ (t : Spn) (k : Nat), lg (s, true) n l = ((t, true), n + k) ∧ k ≤ l.length ∧ t.1 ≤ t.2 ∧
    (∀ v, (t.1 ≤ v ∧ v ≤ t.2) ↔ ((s.1 ≤ v ∧ v ≤ s.2) ∧ Thr (l.take k) v)) ∧ (k < l.length → ∀ v, ¬ ((s.1 ≤ v ∧ v ≤ s.2) ∧ Thr (l.take (k + 1)) v))
  | [], s, n, h => ⟨s, 0, rfl, by simp, h, fun v => by simp [thr_nil], fun h => by simp at h⟩
  | b :: l, s, n, h => by
    by_cases hm : max s.1 b.2.1 ≤ min s.2 b.2.2
    · obtain ⟨t, k, h1, h2, h3, h4, h5⟩ := lg_spec l (max s.1 b.2.1, min s.2 b.2.2) (n + 1) hm
      refine ⟨t, k + 1, ?_, by simpa using h2, h3, fun v => ?_, fun hk v => ?_⟩
      · rw [lg, show tk (s, true) b = some (max s.1 b.2.1, min s.2 b.2.2) by simp only [tk]; rw [if_pos trivial, if_pos hm]]
        show lg _ _ _ = _
        rw [h1]; congr 1; omega
      · rw [h4 v, List.take_succ_cons, thr_cons]
        constructor
        · rintro ⟨a, c⟩; exact ⟨by simp only at a; omega, by simp only at a; omega, c⟩
        · rintro ⟨a, c, d⟩; exact ⟨by simp only; omega, d⟩
      · have := h5 (by simpa using hk) v
        rw [List.take_succ_cons, thr_cons]
        rintro ⟨a, c, d⟩
        exact this ⟨by simp only; omega, d⟩
    · refine ⟨s, 0, ?_, by simp, h, fun v => by simp [thr_nil], fun _ v => ?_⟩
      · rw [lg, show tk (s, true) b = none by simp only [tk]; rw [if_pos trivial, if_neg hm]]; rfl
      · rw [List.take_succ_cons, List.take_zero, thr_cons]
        rintro ⟨a, c, _⟩
        omega
/-- the longest first part through which a constant goes -/
theorem longest_spec {l : List Bd} (h : l ≠ []) (hok : Okb l) : ∃ (t : Spn) (k : Nat), longest l = ((t, true), k) ∧ 1 ≤ k ∧ k ≤ l.length ∧ t.1 ≤ t.2 ∧
    (∀ v, (t.1 ≤ v ∧ v ≤ t.2) ↔ Thr (l.take k) v) ∧ (k < l.length → ∀ v, ¬ Thr (l.take (k + 1)) v) := by
  cases l with
  | nil => exact absurd rfl h
  | cons b l =>
    have hb := hok b (by simp)
    obtain ⟨t, k, h1, h2, h3, h4, h5⟩ := lg_spec l (b.2.1, b.2.2) 1 hb.1
    refine ⟨t, k + 1, ?_, by omega, by simpa using h2, h3, fun v => ?_, fun hk v => ?_⟩
    · show lg (((0, 0), false)) 0 (b :: l) = _
      rw [lg, show tk ((0, 0), false) b = some (b.2.1, b.2.2) by simp [tk]]
      show lg _ _ _ = _
      rw [h1, Nat.add_comm]
    · rw [h4 v, List.take_succ_cons, thr_cons]
    · rw [List.take_succ_cons, thr_cons]
      exact h5 (by simpa using hk) v
/-- no constant goes through more -/
theorem longest_most {l : List Bd} (h : l ≠ []) (hok : Okb l) {j : Nat} (hj : j ≤ l.length) {v : Int} (hv : Thr (l.take j) v) : j ≤ (longest l).2 := by
  obtain ⟨t, k, h1, h2, h3, _, _, h5⟩ := longest_spec h hok
  rw [h1]
  show j ≤ k
  by_cases hjk : j ≤ k
  · exact hjk
  · refine absurd (fun b hb => hv b ?_) (h5 (by omega) v)
    rw [show l.take (k + 1) = (l.take j).take (k + 1) by rw [List.take_take, Nat.min_eq_left (by omega)]] at hb
    exact List.mem_of_mem_take hb
theorem longest_le {l : List Bd} (hok : Okb l) : (longest l).2 ≤ l.length := by
  by_cases h : l = []
  · subst h; exact Nat.le_refl _
  · obtain ⟨t, k, h1, h2, h3, _⟩ := longest_spec h hok
    rw [h1]; exact h3
theorem longest_pos {l : List Bd} (h : l ≠ []) (hok : Okb l) : 1 ≤ (longest l).2 := by
  obtain ⟨t, k, h1, h2, _⟩ := longest_spec h hok
  rw [h1]; exact h2
/-- how bands are cut -/
def cutF : Nat → List Bd → List Nat
  | 0, _ => []
  | f + 1, l => if l = [] then [] else (longest l).2 :: cutF f (l.drop (longest l).2)
def cut (l : List Bd) : List Nat := cutF l.length l
theorem cutF_fuel : ∀ (f g : Nat) (l : List Bd), Okb l → l.length ≤ f → l.length ≤ g → cutF f l = cutF g l
  | 0, 0, _, _, _, _ => rfl
  | 0, g + 1, l, _, h, _ => by
    have : l = [] := List.eq_nil_of_length_eq_zero (by omega)
    subst this; rfl
  | f + 1, 0, l, _, _, h => by
    have : l = [] := List.eq_nil_of_length_eq_zero (by omega)
    subst this; rfl
  | f + 1, g + 1, l, hok, hf, hg => by
    rw [cutF, cutF]
    by_cases h : l = []
    · rw [if_pos h, if_pos h]
    · rw [if_neg h, if_neg h]
      have h1 := longest_pos h hok
      rw [cutF_fuel f g _ (hok.drop _) (by rw [List.length_drop]; omega) (by rw [List.length_drop]; omega)]
theorem cut_nil : cut [] = [] := rfl
theorem cut_step {l : List Bd} (h : l ≠ []) (hok : Okb l) : cut l = (longest l).2 :: cut (l.drop (longest l).2) := by
  have h0 : 0 < l.length := List.length_pos_iff.2 h
  obtain ⟨f, hf⟩ : ∃ f, l.length = f + 1 := ⟨l.length - 1, by omega⟩
  have h1 := longest_pos h hok
  rw [cut, hf, cutF, if_neg h, cut]
  congr 1
  exact cutF_fuel _ _ _ (hok.drop _) (by rw [List.length_drop]; omega) (Nat.le_refl _)
/-- bands are cut into so many parts, through each of which a constant goes -/
inductive Part : List Bd → Nat → Prop
  | nil : Part [] 0
  | cons (a l : List Bd) (n : Nat) (v : Int) : a ≠ [] → Thr a v → Part l n → Part (a ++ l) (n + 1)
theorem part_cut : ∀ (m : Nat) (l : List Bd), l.length ≤ m → Okb l → Part l (cut l).length
  | 0, l, h, _ => by
    have : l = [] := List.eq_nil_of_length_eq_zero (by omega)
    subst this; exact Part.nil
  | m + 1, l, h, hok => by
    by_cases h0 : l = []
    · subst h0; exact Part.nil
    · rw [cut_step h0 hok]
      obtain ⟨t, k, h1, h2, h3, h4, h5, _⟩ := longest_spec h0 hok
      rw [h1]
      have ih := part_cut m (l.drop k) (by rw [List.length_drop]; omega) (hok.drop _)
      have := Part.cons (l.take k) (l.drop k) _ t.1 (fun e => by have := congrArg List.length e; rw [List.length_take, List.length_nil] at this; omega) ((h5 t.1).1 ⟨Int.le_refl _, h4⟩) ih
      rw [List.take_append_drop] at this
      exact this
/-- what is left of bands has no more parts -/
theorem cut_suffix : ∀ (m : Nat) (l : List Bd) (j : Nat), l.length ≤ m → Okb l → (cut (l.drop j)).length ≤ (cut l).length
  | 0, l, j, h, _ => by
    have : l = [] := List.eq_nil_of_length_eq_zero (by omega)
    subst this; simp
  | m + 1, l, j, h, hok => by
    by_cases h0 : l = []
    · subst h0; simp
    · by_cases hj : l.drop j = []
      · rw [hj, cut_nil]; exact Nat.zero_le _
      · have hjl : j < l.length := by
          have : 0 < (l.drop j).length := List.length_pos_iff.2 hj
          rw [List.length_drop] at this; omega
        rw [cut_step h0 hok]
        obtain ⟨t, k, h1, h2, h3, h4, h5, _⟩ := longest_spec h0 hok
        rw [h1]
        simp only [List.length_cons]
        have hm : (l.drop k).length ≤ m := by rw [List.length_drop]; omega
        by_cases hkj : k ≤ j
        · have := cut_suffix m (l.drop k) (j - k) hm (hok.drop _)
          rw [List.drop_drop, show k + (j - k) = j by omega] at this
          omega
        · have hthr : Thr ((l.drop j).take (k - j)) t.1 := fun b hb => by
            refine (h5 t.1).1 ⟨Int.le_refl _, h4⟩ b ?_
            rw [← List.drop_take] at hb
            exact List.mem_of_mem_drop hb
          have hk2 := longest_most hj (hok.drop j) (j := k - j) (by rw [List.length_drop]; omega) hthr
          rw [cut_step hj (hok.drop j)]
          simp only [List.length_cons]
          have := cut_suffix m (l.drop k) (j + (longest (l.drop j)).2 - k) hm (hok.drop _)
          rw [List.drop_drop, show k + (j + (longest (l.drop j)).2 - k) = j + (longest (l.drop j)).2 by omega] at this
          rw [List.drop_drop]
          omega
theorem cut_least {l : List Bd} {n : Nat} (h : Part l n) : Okb l → (cut l).length ≤ n := by
  induction h with
  | nil => intro _; exact Nat.le_refl _
  | cons a l n v ha hv _ ih =>
    intro hok
    have hok2 : Okb l := fun b hb => hok b (List.mem_append_right _ hb)
    have h0 : a ++ l ≠ [] := by simp [ha]
    have hk := longest_most h0 hok (j := a.length) (by simp) (v := v) (by rw [List.take_left]; exact hv)
    rw [cut_step h0 hok]
    simp only [List.length_cons]
    have := cut_suffix l.length l ((longest (a ++ l)).2 - a.length) (Nat.le_refl _) hok2
    have e : (a ++ l).drop (longest (a ++ l)).2 = l.drop ((longest (a ++ l)).2 - a.length) := by
      rw [List.drop_append, List.drop_eq_nil_of_le hk, List.nil_append]
    rw [e]
    have := ih hok2
    omega
theorem Part.app {a b : List Bd} {m n : Nat} (ha : Part a m) (hb : Part b n) : Part (a ++ b) (m + n) := by
  induction ha with
  | nil => rw [List.nil_append, Nat.zero_add]; exact hb
  | cons c l k v h1 h2 _ ih =>
    rw [List.append_assoc, show k + 1 + n = (k + n) + 1 by omega]
    exact Part.cons c _ _ v h1 h2 ih
theorem Part.split {l : List Bd} {n : Nat} (h : Part l n) : ∀ (a b : List Bd), l = a ++ b → ∃ m p, Part a m ∧ Part b p ∧ m + p ≤ n + 1 ∧ m ≤ n ∧ p ≤ n := by
  induction h with
  | nil =>
    intro a b h
    obtain ⟨rfl, rfl⟩ := List.append_eq_nil_iff.1 h.symm
    exact ⟨0, 0, .nil, .nil, by omega, by omega, by omega⟩
  | cons c l n v h1 h2 h3 ih =>
    intro a b h
    rcases List.append_eq_append_iff.1 h with ⟨a', h4, h5⟩ | ⟨c', h4, h5⟩
    · subst h4
      obtain ⟨m, p, q1, q2, q3, q4, q5⟩ := ih a' b h5
      exact ⟨m + 1, p, Part.cons c a' m v h1 h2 q1, q2, by omega, by omega, by omega⟩
    · subst h4
      obtain ⟨w1, w2⟩ := (thr_app _ _ _).1 h2
      by_cases ha : a = []
      · subst ha
        rw [List.nil_append] at h1
        rw [h5]
        exact ⟨0, n + 1, .nil, Part.cons c' l n v h1 w2 h3, by omega, by omega, by omega⟩
      · have hA : Part a 1 := by have := Part.cons a [] 0 v ha w1 .nil; rwa [List.append_nil] at this
        by_cases hc : c' = []
        · subst hc
          rw [List.nil_append] at h5
          rw [h5]
          exact ⟨1, n, hA, h3, by omega, by omega, by omega⟩
        · rw [h5]
          exact ⟨1, n + 1, hA, Part.cons c' l n v hc w2 h3, by omega, by omega, by omega⟩
end Pm
