/-
  RUNS of times, in plain Lean: places and times.
-/
import Derived.Test.YtpligbfajnjklaaRu2
namespace Ru
/-- how many times are below t -/
def nBelow (t : Int) (l : List Int) : Nat := l.countP fun x => decide (x < t)
def nUpto (t : Int) (l : List Int) : Nat := l.countP fun x => decide (x ≤ t)
theorem nBelow_append (t : Int) (a b : List Int) : nBelow t (a ++ b) = nBelow t a + nBelow t b := List.countP_append
theorem nBelow_all {t : Int} {l : List Int} (h : ∀ x ∈ l, x < t) : nBelow t l = l.length := List.countP_eq_length.2 (fun x hx => by simpa using h x hx)
theorem nBelow_none {t : Int} {l : List Int} (h : ∀ x ∈ l, t ≤ x) : nBelow t l = 0 := List.countP_eq_zero.2 (fun x hx => by have := h x hx; simp; omega)
theorem nBelow_upto (t : Int) (l : List Int) : nBelow (t + 1) l = nUpto t l := by
  unfold nBelow nUpto
  congr 1; funext x; congr 1; rw [eq_iff_iff]; omega
theorem nBelow_le (t : Int) (l : List Int) : nBelow t l ≤ l.length := List.countP_le_length
theorem countP_range_lt (m n : Nat) (h : m ≤ n) : (List.range n).countP (fun k => decide (k < m)) = m := by
  induction n with
  | zero => obtain rfl : m = 0 := by omega
            rfl
  | succ n ih =>
    rw [List.range_succ, List.countP_append]
    by_cases e : m ≤ n
    · rw [ih e]; simp; omega
    · obtain rfl : m = n + 1 := by omega
      have : (List.range n).countP (fun k => decide (k < n + 1)) = n := by
        have h2 : (List.range n).countP (fun k => decide (k < n + 1)) = (List.range n).length := List.countP_eq_length.2 (fun x hx => by have := List.mem_range.1 hx; simp; omega)
        rw [h2, List.length_range]
      rw [this]; simp
theorem times_take (l : List Rn) (k : Nat) (h : k < l.length) : times l = times (l.take k) ++ (ts l[k] ++ times (l.drop (k + 1))) := by
  have e : l = l.take k ++ (l[k] :: l.drop (k + 1)) := by rw [List.getElem_cons_drop]; exact (List.take_append_drop k l).symm
  conv => lhs; rw [e]
  unfold times
  rw [List.flatMap_append, List.flatMap_cons]
theorem last_mem {r : Rn} (h : 1 ≤ r.2.2) : last r ∈ ts r ∧ r.1 ∈ ts r := by
  obtain ⟨a, s, c⟩ := r
  obtain ⟨n, rfl⟩ : ∃ n : Nat, c = (n : Int) + 1 := ⟨(c - 1).toNat, by simp at h; omega⟩
  have e : ((n : Int) + 1).toNat = n + 1 := by omega
  unfold ts
  simp only [e, List.mem_map, List.mem_range]
  exact ⟨⟨n, by omega, by rw [last_nat]⟩, ⟨0, by omega, by simp⟩⟩
/-- what is known of the run at a place -/
structure AtR (l : List Rn) (k : Nat) (r : Rn) : Prop where
  cok : Cok r
  siz : sized r = true
  own : ∀ x ∈ ts r, r.1 ≤ x ∧ x ≤ last r
  bef : ∀ x ∈ times (l.take k), x < r.1
  aft : ∀ x ∈ times (l.drop (k + 1)), last r < x
  len : ((times (l.take k)).length : Int) = many (l.take k)
  all : times l = times (l.take k) ++ (ts r ++ times (l.drop (k + 1)))
  big : many (l.take k) + r.2.2 ≤ 256
  pos : 0 ≤ many (l.take k)
theorem many_take_le : ∀ (l : List Rn) (k : Nat), (∀ r ∈ l, 0 ≤ r.2.2) → 0 ≤ many (l.take k) ∧ many (l.take k) ≤ many l
  | [], k, _ => by simp [many]
  | r :: l, 0, h => by
    have := many_take_le l 0 (fun x hx => h x (by simp [hx]))
    have h0 := h r (by simp)
    rw [many_cons]
    simp [many] at this ⊢; omega
  | r :: l, k + 1, h => by
    have := many_take_le l k (fun x hx => h x (by simp [hx]))
    have h0 := h r (by simp)
    rw [List.take_succ_cons, many_cons, many_cons]; omega
theorem at_rises {l : List Rn} (h : risesB l = true) {k : Nat} (hk : k < l.length) : AtR l k l[k] := by
  obtain ⟨h1, h2, h3, h4⟩ := (rises_iff l).1 h
  have hs := chain_sized l h3
  have h5 := hs l[k] (List.getElem_mem hk)
  have hc := cok_of h5.1 h5.2.1 h5.2.2
  obtain ⟨o1, o2⟩ := ts_up l[k] hc
  have hal := times_take l k hk
  have hup := (times_up l h3).1.2
  rw [hal] at hup
  obtain ⟨p1, p2, p3⟩ := List.pairwise_append.1 hup
  obtain ⟨p4, p5, p6⟩ := List.pairwise_append.1 p2
  obtain ⟨m1, m2⟩ := last_mem (r := l[k]) hc.1
  have hnn : ∀ r ∈ l, 0 ≤ r.2.2 := fun r hr => by have := (sized_iff r).1 (hs r hr).1; omega
  have hsn : many (l.take (k + 1)) = many (l.take k) + l[k].2.2 := by
    unfold many
    rw [List.take_succ_eq_append_getElem hk, List.map_append, List.sum_append]; simp
  have hm := many_take_le l (k + 1) hnn
  exact ⟨hc, h5.1, o1, fun x hx => p3 x hx _ (List.mem_append_left _ m2), fun x hx => p6 _ m1 x hx,
    times_length _ (fun r hr => hnn r (List.mem_of_mem_take hr)), hal, by rw [hsn] at hm; omega, (many_take_le l k hnn).1⟩
/-- t is no later than the run: so many are below -/
theorem below_here {l : List Rn} {k : Nat} {r : Rn} (A : AtR l k r) {t : Int} (hb : ∀ x ∈ times (l.take k), x < t) (h : t ≤ r.1) : (nBelow t (times l) : Int) = many (l.take k) := by
  rw [A.all, nBelow_append, nBelow_append, nBelow_all hb, nBelow_none (fun x hx => by have := (A.own x hx).1; omega), nBelow_none (fun x hx => by have := A.aft x hx; have := (cok_bounds A.cok).2.2; omega)]
  have := A.len
  omega
theorem below_pass {l : List Rn} {k : Nat} (hk : k < l.length) {r : Rn} (hr : l[k] = r) (A : AtR l k r) {t : Int} (hb : ∀ x ∈ times (l.take k), x < t) (h : last r < t) : ∀ x ∈ times (l.take (k + 1)), x < t := by
  intro x hx
  unfold times at hx
  rw [List.take_succ_eq_append_getElem hk, List.flatMap_append, hr] at hx
  rcases List.mem_append.1 hx with hx | hx
  · exact hb x hx
  · have hx' : x ∈ ts r := by simpa using hx
    have := (A.own x hx').2; omega
theorem below_in {l : List Rn} {k : Nat} {r : Rn} (A : AtR l k r) {t : Int} (hb : ∀ x ∈ times (l.take k), x < t) (h1 : r.1 < t) (h2 : t ≤ last r) : (nBelow t (times l) : Int) = many (l.take k) + (t - r.1 - 1) / r.2.1 + 1 ∧ 0 < r.2.1 ∧ 0 ≤ (t - r.1 - 1) / r.2.1 ∧ (t - r.1 - 1) / r.2.1 ≤ 256 := by
  have hc := A.cok
  have hsz := (sized_iff r).1 A.siz
  obtain ⟨a, s, c⟩ := r
  obtain ⟨c1, c2, c3, c4, c5⟩ := hc
  simp only at h1 c1 c2 c3 c4 hsz ⊢
  obtain ⟨n, rfl⟩ : ∃ n : Nat, c = (n : Int) + 1 := ⟨(c - 1).toNat, by omega⟩
  rw [last_nat] at h2
  have hs : 0 < s := by
    have : ¬ s = 0 := fun e => by subst e; simp at h2; omega
    omega
  have hq0 : 0 ≤ (t - a - 1) / s := Int.ediv_nonneg (by omega) (by omega)
  obtain ⟨q, hq⟩ : ∃ q : Nat, (t - a - 1) / s = (q : Int) := ⟨((t - a - 1) / s).toNat, by omega⟩
  have hq1 : (q : Int) * s ≤ t - a - 1 := by rw [← hq]; exact Int.ediv_mul_le _ (by omega)
  have hq2 : t - a - 1 < ((q : Int) + 1) * s := by rw [← hq]; exact Int.lt_ediv_add_one_mul_self _ hs
  have hqn : q < n := by
    have : (q : Int) * s < (n : Int) * s := by omega
    have := Int.lt_of_mul_lt_mul_right this (by omega)
    omega
  refine ⟨?_, hs, by omega, by omega⟩
  rw [A.all, nBelow_append, nBelow_append, nBelow_all hb, nBelow_none (t := t) (l := times (l.drop (k + 1))) (fun x hx => by have := A.aft x hx; rw [last_nat] at this; omega)]
  have hcount : nBelow t (ts (a, s, (n : Int) + 1)) = q + 1 := by
    have e : ((n : Int) + 1).toNat = n + 1 := by omega
    unfold nBelow ts
    simp only [e, List.countP_map]
    have hf : ((fun x => decide (x < t)) ∘ fun k : Nat => a + (k : Int) * s) = fun k : Nat => decide (k < q + 1) := by
      funext k
      simp only [Function.comp]
      congr 1; rw [eq_iff_iff]
      constructor
      · intro hlt
        have h3 : (k : Int) * s < ((q : Int) + 1) * s := by omega
        have := Int.lt_of_mul_lt_mul_right h3 (by omega)
        omega
      · intro hlt
        have h3 : (k : Int) * s ≤ (q : Int) * s := Int.mul_le_mul_of_nonneg_right (by omega) (by omega)
        omega
    rw [hf]
    exact countP_range_lt (q + 1) (n + 1) (by omega)
  have hcount2 : List.countP (fun x => decide (x < t)) (ts (a, s, (n : Int) + 1)) = q + 1 := hcount
  have := A.len
  rw [hcount, hq]
  omega
/-- the time of a place -/
theorem time_at {l : List Rn} {k : Nat} {r : Rn} (A : AtR l k r) (i : Nat) (h1 : many (l.take k) ≤ i) (h2 : (i : Int) - many (l.take k) < r.2.2) : (times l)[i]? = some (r.1 + r.2.1 * ((i : Int) - many (l.take k))) := by
  have hl := A.len
  have hp := A.pos
  rw [A.all, List.getElem?_append_right (by omega), List.getElem?_append_left (by rw [ts_length]; omega)]
  unfold ts
  rw [List.getElem?_map, List.getElem?_range (by omega)]
  simp only [Option.map_some, Option.some.injEq]
  rw [Int.mul_comm]
  congr 2; omega
theorem times_len {l : List Rn} (h : risesB l = true) : ((times l).length : Int) = many l ∧ many l ≤ 256 := by
  obtain ⟨h1, h2, h3, h4⟩ := (rises_iff l).1 h
  exact ⟨times_length _ (fun r hr => by have := (sized_iff r).1 (chain_sized l h3 r hr).1; omega), h4⟩
end Ru
namespace Ru
/-- a row to which n times came, the last one x -/
def St (s : Rn × List Rn) (x : Int) (n : Nat) : Prop := Cok s.1 ∧ last s.1 = x ∧ s.1.2.2 + s.2.length ≤ n
theorem take_st {s : Rn × List Rn} {x t : Int} {n : Nat} (h : St s x n) (h1 : x < t) (h2 : t ≤ maxT) : St (take s t) t (n + 1) := by
  obtain ⟨hc, hl, hn⟩ := h
  obtain ⟨b1, b2, b3⟩ := cok_bounds hc
  obtain ⟨c1, c2, c3, c4, c5⟩ := hc
  unfold take
  rw [if_neg (by omega)]
  by_cases e1 : s.1.2.2 = 1
  · rw [if_pos e1]
    have el : last s.1 = s.1.1 := by unfold last; rw [e1]; simp
    refine ⟨⟨by simp, by simp; omega, by show 0 ≤ t - s.1.1; omega, c4, ?_⟩, ?_, by show (2 : Int) + (s.2.length : Int) ≤ ((n + 1 : Nat) : Int); omega⟩
    · show last (s.1.1, t - s.1.1, (2 : Int)) ≤ maxT
      simp [last]; omega
    · show last (s.1.1, t - s.1.1, (2 : Int)) = t
      simp [last]; omega
  · rw [if_neg e1]
    by_cases e2 : t - last s.1 = s.1.2.1
    · rw [if_pos e2]
      have el2 : last (s.1.1, s.1.2.1, s.1.2.2 + 1) = t := by
        unfold last at e2 ⊢
        have : s.1.2.1 * (s.1.2.2 + 1 - 1) = s.1.2.1 * (s.1.2.2 - 1) + s.1.2.1 := by rw [show s.1.2.2 + 1 - 1 = (s.1.2.2 - 1) + 1 by omega, Int.mul_add, Int.mul_one]
        simp only at *; omega
      have hs0 : s.1.2.1 ≠ 0 := fun e => e1 (c2.2 e)
      exact ⟨⟨by show 1 ≤ s.1.2.2 + 1; omega, by show s.1.2.2 + 1 = 1 ↔ _; constructor <;> intro h <;> first | omega | exact absurd h hs0, c3, c4, by show last (s.1.1, s.1.2.1, s.1.2.2 + 1) ≤ maxT; rw [el2]; exact h2⟩, el2, by show s.1.2.2 + 1 + (s.2.length : Int) ≤ ((n + 1 : Nat) : Int); omega⟩
    · rw [if_neg e2]
      have el2 : last (t, (0 : Int), (1 : Int)) = t := by simp [last]
      refine ⟨⟨by simp, by simp, by simp, by show 0 ≤ t; omega, by show last (t, (0 : Int), (1 : Int)) ≤ maxT; rw [el2]; exact h2⟩, el2, ?_⟩
      show (1 : Int) + ((s.2 ++ [s.1]).length : Nat) ≤ ((n + 1 : Nat) : Int)
      rw [List.length_append, List.length_singleton]; omega
theorem fold_st {l : List Int} (h : UpL l) : ∀ (k : Nat) (hk : k < l.length), St ((l.take (k + 1)).foldl take row0) l[k] (k + 1)
  | 0, hk => by
    cases l with
    | nil => simp at hk
    | cons t r =>
      have := h.1 t (by simp)
      have e : ((t :: r).take (0 + 1)).foldl take row0 = ((t, 0, 1), []) := rfl
      rw [e]
      have el2 : last (t, (0 : Int), (1 : Int)) = t := by simp [last]
      exact ⟨⟨by simp, by simp, by simp, this.1, by show last (t, (0 : Int), (1 : Int)) ≤ maxT; rw [el2]; exact this.2⟩, el2, by simp⟩
  | k + 1, hk => by
    have ih := fold_st h k (by omega)
    rw [List.take_succ_eq_append_getElem hk, List.foldl_append]
    exact take_st ih ((List.pairwise_iff_getElem.1 h.2) k (k + 1) (by omega) hk (by omega)) (h.1 _ (List.getElem_mem hk)).2
theorem st_sized {s : Rn × List Rn} {x : Int} {n : Nat} (h : St s x n) (hn : n ≤ 256) : sized s.1 = true ∧ s.2.length ≤ 256 := by
  obtain ⟨hc, hl, hn2⟩ := h
  obtain ⟨b1, b2, b3⟩ := cok_bounds hc
  obtain ⟨c1, c2, c3, c4, c5⟩ := hc
  exact ⟨(sized_iff _).2 ⟨c1, by omega, c4, b1, c3, b2⟩, by omega⟩
/-- what take wants, at each of times that may be -/
theorem row_ok {l : List Int} (h : risingB l = true) (k : Nat) (hk : k ≤ l.length) : (((l.take k).foldl take row0).1.2.2 = 0 ∨ sized ((l.take k).foldl take row0).1 = true) ∧ ((l.take k).foldl take row0).2.length ≤ 256 := by
  obtain ⟨h1, h2, h3⟩ := (rising_iff l).1 h
  cases k with
  | zero => exact ⟨.inl rfl, by simp [row0]⟩
  | succ k =>
    have := st_sized (fold_st h3 k (by omega)) (by omega)
    exact ⟨.inr this.1, this.2⟩
end Ru
