/-
  BINARY DIGITS, in plain Lean: a number's digits from the lowest on, without noughts at the end.
-/
import Derived.Test.YtcedalenjcbnmaaFree
namespace Wd
open Go Go.RowKit Agg

def digs (n : Nat) : List Nat := if h : n = 0 then [] else (n % 2) :: digs (n / 2)
termination_by n
decreasing_by omega
def val : List Nat → Nat
  | [] => 0
  | d :: r => d + 2 * val r
theorem digs_zero : digs 0 = [] := by rw [digs]; simp
theorem digs_pos {n : Nat} (h : 0 < n) : digs n = (n % 2) :: digs (n / 2) := by
  rw [digs]; simp [show ¬ n = 0 by omega]
theorem val_digs (n : Nat) : val (digs n) = n := by
  induction n using Nat.strongRecOn with
  | _ n ih =>
    rcases Nat.eq_zero_or_pos n with h | h
    · subst h; rw [digs_zero]; rfl
    · rw [digs_pos h, val, ih (n / 2) (by omega)]; omega
theorem digs_lt (n : Nat) : ∀ d ∈ digs n, d < 2 := by
  induction n using Nat.strongRecOn with
  | _ n ih =>
    rcases Nat.eq_zero_or_pos n with h | h
    · subst h; rw [digs_zero]; simp
    · rw [digs_pos h]
      intro d hd
      rcases List.mem_cons.1 hd with rfl | hd
      · omega
      · exact ih (n / 2) (by omega) d hd
theorem val_lt (l : List Nat) (h : ∀ d ∈ l, d < 2) : val l < 2 ^ l.length := by
  induction l with
  | nil => simp [val]
  | cons d r ih =>
    have h1 := h d (by simp)
    have h2 := ih (fun x hx => h x (by simp [hx]))
    rw [val, List.length_cons, Nat.pow_succ]; omega
theorem canon (l : List Nat) (h : ∀ d ∈ l, d < 2) (hc : l = [] ∨ 2 ^ (l.length - 1) ≤ val l) : digs (val l) = l := by
  induction l with
  | nil => exact digs_zero
  | cons d r ih =>
    have h1 := h d (by simp)
    have hc2 := hc.resolve_left (by simp)
    rw [val] at hc2 ⊢
    cases r with
    | nil =>
      simp only [val, List.length_cons, List.length_nil] at hc2 ⊢
      obtain rfl : d = 1 := by omega
      rw [digs_pos (by decide)]
      show 1 % 2 :: digs 0 = [1]
      rw [digs_zero]
    | cons e s =>
      have hr : 2 ^ ((e :: s).length - 1) ≤ val (e :: s) := by
        simp only [List.length_cons, Nat.add_sub_cancel] at hc2 ⊢
        rw [Nat.pow_succ] at hc2
        omega
      have ihr := ih (fun x hx => h x (by simp [hx])) (.inr hr)
      have hp : 0 < 2 ^ ((e :: s).length - 1) := Nat.pow_pos (by decide)
      rw [digs_pos (by omega), show (d + 2 * val (e :: s)) % 2 = d by omega, show (d + 2 * val (e :: s)) / 2 = val (e :: s) by omega, ihr]
theorem digs_low {n : Nat} (h : 0 < n) : 2 ^ ((digs n).length - 1) ≤ n := by
  induction n using Nat.strongRecOn with
  | _ n ih =>
    rw [digs_pos h]
    rcases Nat.eq_zero_or_pos (n / 2) with h2 | h2
    · rw [h2, digs_zero]; simp; omega
    · have := ih (n / 2) (by omega) h2
      have hl : 0 < (digs (n / 2)).length := by rw [digs_pos h2]; simp
      obtain ⟨k, hk⟩ : ∃ k, (digs (n / 2)).length = k + 1 := ⟨(digs (n / 2)).length - 1, by omega⟩
      rw [hk] at this
      rw [List.length_cons, hk]
      simp only [Nat.add_sub_cancel] at this ⊢
      rw [Nat.pow_succ]; omega
theorem digs_high (n : Nat) : n < 2 ^ (digs n).length := by
  have := val_lt _ (digs_lt n)
  rwa [val_digs] at this
theorem digs_len {n k : Nat} (h : n < 2 ^ k) : (digs n).length ≤ k := by
  rcases Nat.eq_zero_or_pos n with h0 | h0
  · subst h0; rw [digs_zero]; simp
  · have h1 := digs_low h0
    apply Classical.byContradiction
    intro hlt
    have : 2 ^ k ≤ 2 ^ ((digs n).length - 1) := Nat.pow_le_pow_right (by decide) (by omega)
    omega
theorem digs_nil {n : Nat} : digs n = [] ↔ n = 0 := by
  constructor
  · intro h
    have := val_digs n
    rw [h] at this
    exact this.symm
  · rintro rfl; exact digs_zero
theorem len_lt {a b : Nat} (h : (digs a).length < (digs b).length) : a < b := by
  have h1 := digs_high a
  have hb : 0 < b := by
    rcases Nat.eq_zero_or_pos b with h0 | h0
    · subst h0; rw [digs_zero] at h; simp at h
    · exact h0
  have h2 := digs_low hb
  have : 2 ^ (digs a).length ≤ 2 ^ ((digs b).length - 1) := Nat.pow_le_pow_right (by decide) (by omega)
  omega
theorem val_snoc (l : List Nat) (d : Nat) : val (l ++ [d]) = val l + 2 ^ l.length * d := by
  induction l with
  | nil => simp [val]
  | cons a r ih =>
    rw [List.cons_append, val, ih, val, List.length_cons, Nat.pow_succ]
    rw [Nat.mul_add, ← Nat.mul_assoc, Nat.mul_comm 2 (2 ^ r.length)]; omega
theorem val_drop (l : List Nat) (i : Nat) (h : i < l.length) : val (l.drop i) = l[i] + 2 * val (l.drop (i + 1)) := by
  rw [← List.getElem_cons_drop h, val]
theorem val_drop_none (l : List Nat) (i : Nat) (h : l.length ≤ i) : val (l.drop i) = 0 := by
  rw [List.drop_eq_nil_of_le h]; rfl
theorem val_cut (l : List Nat) (i : Nat) (h : i ≤ l.length) : val l = val (l.take i) + 2 ^ i * val (l.drop i) := by
  induction i generalizing l with
  | zero => simp [val]
  | succ i ih =>
    cases l with
    | nil => simp at h
    | cons a r =>
      have := ih r (by simpa using h)
      rw [List.take_succ_cons, List.drop_succ_cons, val, val, this, Nat.pow_succ, Nat.mul_add, ← Nat.mul_assoc, Nat.mul_comm 2 (2 ^ i)]; omega
theorem mem_lt {l : List Nat} (h : ∀ d ∈ l, d < 2) (i : Nat) (hi : i < l.length) : l[i] < 2 := h _ (List.getElem_mem hi)
/-- digits as cells -/
def iD (l : List Nat) : List Value := l.map fun d : Nat => Value.int .i64 (d : Int)
theorem iD_length (l : List Nat) : (iD l).length = l.length := by simp [iD]
theorem iD_append (l m : List Nat) : iD (l ++ m) = iD l ++ iD m := List.map_append
theorem iD_one (l : List Nat) : ∀ u ∈ iD l, u.oneCell' = true := by
  intro u hu
  obtain ⟨d, _, rfl⟩ := List.mem_map.1 hu
  rfl
theorem iD_get (l : List Nat) (i : Nat) (h : i < l.length) : (iD l)[i]? = some (.int .i64 (l[i] : Int)) := by simp [iD, h]
/-- a number's digits in memory -/
abbrev NB (w : World) (v : Value) (n : Nat) : Prop := SlR w v 1 (digs n).length (iD (digs n))
end Wd
