/-
  RUNS of times, in plain Lean.
-/
import Derived.Test.YtpligbfajnjklaaAgg
section
namespace Ru
/-- a run: its first time, its step, how many -/
abbrev Rn := Int × Int × Int
def maxT : Int := 281474976710656
def last (r : Rn) : Int := r.1 + r.2.1 * (r.2.2 - 1)
/-- a run's times -/
def ts (r : Rn) : List Int := (List.range r.2.2.toNat).map fun k : Nat => r.1 + (k : Int) * r.2.1
def times (l : List Rn) : List Int := l.flatMap ts
/-- the runs of times that come behind those of an open run -/
def go : Rn → List Int → List Rn
  | c, [] => [c]
  | c, t :: r => if c.2.2 = 1 then go (c.1, t - c.1, 2) r else if t - last c = c.2.1 then go (c.1, c.2.1, c.2.2 + 1) r else c :: go (t, 0, 1) r
def ofR : List Int → List Rn
  | [] => []
  | t :: r => go (t, 0, 1) r
/-- what `take` makes of a row: the open run, those that are done -/
def take (s : Rn × List Rn) (t : Int) : Rn × List Rn :=
  if s.1.2.2 = 0 then ((t, 0, 1), s.2) else if s.1.2.2 = 1 then ((s.1.1, t - s.1.1, 2), s.2) else if t - last s.1 = s.1.2.1 then ((s.1.1, s.1.2.1, s.1.2.2 + 1), s.2) else ((t, 0, 1), s.2 ++ [s.1])
theorem take_go (s : Rn × List Rn) (h : 1 ≤ s.1.2.2) (t : Int) (r : List Int) : (take s t).2 ++ go (take s t).1 r = s.2 ++ go s.1 (t :: r) ∧ 1 ≤ (take s t).1.2.2 := by
  unfold take
  rw [if_neg (by omega)]
  by_cases h1 : s.1.2.2 = 1
  · rw [if_pos h1]
    refine ⟨?_, by simp⟩
    show s.2 ++ go _ r = s.2 ++ go s.1 (t :: r)
    rw [go, if_pos h1]
  · rw [if_neg h1]
    by_cases h2 : t - last s.1 = s.1.2.1
    · rw [if_pos h2]
      refine ⟨?_, by show 1 ≤ s.1.2.2 + 1; omega⟩
      show s.2 ++ go _ r = s.2 ++ go s.1 (t :: r)
      rw [go, if_neg h1, if_pos h2]
    · rw [if_neg h2]
      refine ⟨?_, by simp⟩
      show (s.2 ++ [s.1]) ++ go _ r = s.2 ++ go s.1 (t :: r)
      rw [go, if_neg h1, if_neg h2, List.append_assoc]; rfl
theorem takes_go (s : Rn × List Rn) (h : 1 ≤ s.1.2.2) (l r : List Int) : (l.foldl take s).2 ++ go (l.foldl take s).1 r = s.2 ++ go s.1 (l ++ r) ∧ 1 ≤ (l.foldl take s).1.2.2 := by
  induction l generalizing s with
  | nil => exact ⟨rfl, h⟩
  | cons t l ih =>
    obtain ⟨h1, h2⟩ := take_go s h t (l ++ r)
    obtain ⟨h3, h4⟩ := ih (take s t) h2
    exact ⟨by rw [List.foldl_cons, h3, h1]; rfl, h4⟩
def row0 : Rn × List Rn := ((0, 0, 0), [])
/-- what `laid` hands back: the runs -/
theorem laid_of (l : List Int) (h : l ≠ []) : (l.foldl take row0).2 ++ [(l.foldl take row0).1] = ofR l := by
  cases l with
  | nil => exact absurd rfl h
  | cons t r =>
    have e : take row0 t = ((t, 0, 1), []) := rfl
    rw [List.foldl_cons, e]
    have := (takes_go ((t, 0, 1), []) (by simp) r []).1
    rw [List.append_nil] at this
    exact this
theorem ts_succ (a s : Int) (c : Nat) : ts (a, s, (c : Int) + 1) = ts (a, s, (c : Int)) ++ [a + (c : Int) * s] := by
  have e : ((c : Int) + 1).toNat = c + 1 := by omega
  unfold ts
  simp only [e, Int.toNat_natCast, List.range_succ, List.map_append, List.map_cons, List.map_nil]
theorem ts_one (a s : Int) : ts (a, s, 1) = [a] := by simp [ts, List.range_succ]
theorem ts_length (r : Rn) : (ts r).length = r.2.2.toNat := by simp [ts]
theorem times_go (c : Rn) (h : 1 ≤ c.2.2) (l : List Int) : times (go c l) = ts c ++ l := by
  induction l generalizing c with
  | nil => simp [go, times]
  | cons t r ih =>
    obtain ⟨a, s, n⟩ := c
    simp only at h
    rw [go]
    by_cases h1 : n = 1
    · subst h1
      rw [if_pos rfl, ih _ (by simp), ts_one]
      have e := ts_succ a (t - a) 1
      simp only [Int.natCast_one, ts_one] at e
      show ts (a, t - a, 2) ++ r = _
      rw [show ((2 : Int)) = 1 + 1 by rfl, e]
      simp; omega
    · rw [if_neg h1]
      by_cases h2 : t - last (a, s, n) = s
      · rw [if_pos h2, ih _ (by show 1 ≤ n + 1; omega)]
        obtain ⟨m, rfl⟩ : ∃ m : Nat, n = (m : Int) := ⟨n.toNat, by omega⟩
        show ts (a, s, (m : Int) + 1) ++ r = _
        rw [ts_succ, List.append_assoc]
        have : a + (m : Int) * s = t := by
          simp only [last] at h2
          have e : s * ((m : Int) - 1) = m * s - s := by rw [Int.mul_sub, Int.mul_one, Int.mul_comm]
          omega
        rw [this]; rfl
      · rw [if_neg h2]
        show ts (a, s, n) ++ times (go (t, 0, 1) r) = _
        rw [ih _ (by simp), ts_one]; rfl
theorem times_of (l : List Int) : times (ofR l) = l := by
  cases l with
  | nil => rfl
  | cons t r => rw [ofR, times_go _ (by simp), ts_one]; rfl
end Ru
end
section
/-
  RUNS of times, in plain Lean: which may be.
-/
namespace Ru
def sized (r : Rn) : Bool := decide (1 ≤ r.2.2) && decide (r.2.2 ≤ 256) && decide (0 ≤ r.1) && decide (r.1 ≤ maxT) && decide (0 ≤ r.2.1) && decide (r.2.1 ≤ maxT)
def fine (lst : Bool) (r : Rn) : Bool := (decide (r.2.2 = 1) == decide (r.2.1 = 0)) && (decide (1 < r.2.2) || lst) && decide (last r ≤ maxT)
def next (p r : Rn) : Bool := decide (0 < r.1 - last p) && decide (r.1 - last p ≠ p.2.1)
def many (l : List Rn) : Int := (l.map (·.2.2)).sum
def chainOk : List Rn → Bool
  | [] => true
  | [r] => sized r && fine true r
  | r :: r' :: l => sized r && fine false r && next r r' && chainOk (r' :: l)
/-- a run at its place -/
def nextAt (l : List Rn) (i : Nat) (r : Rn) : Bool := match i with
  | 0 => true
  | j + 1 => match l[j]? with
    | some p => next p r
    | none => true
def okAt (l : List Rn) (i : Nat) : Bool := match l[i]? with
  | some r => sized r && fine (decide (i + 1 = l.length)) r && nextAt l i r
  | none => true
def risesB (l : List Rn) : Bool := decide (1 ≤ l.length) && decide (l.length ≤ 256) && (List.range l.length).all (okAt l) && decide (many l ≤ 256)
theorem okAt_cons (r : Rn) (l : List Rn) (i : Nat) (h : 0 < i) : okAt (r :: l) (i + 1) = okAt l i := by
  obtain ⟨j, rfl⟩ : ∃ j, i = j + 1 := ⟨i - 1, by omega⟩
  unfold okAt
  simp only [List.getElem?_cons_succ, List.length_cons, Nat.add_right_cancel_iff, nextAt]
theorem chain_all : ∀ (l : List Rn), (List.range l.length).all (okAt l) = chainOk l
  | [] => rfl
  | [r] => by simp [List.range_succ, okAt, chainOk, nextAt]
  | r :: r' :: l => by
    have ih := chain_all (r' :: l)
    have e1 : okAt (r :: r' :: l) 0 = (sized r && fine false r) := by simp [okAt, nextAt]
    have e2 : okAt (r :: r' :: l) 1 = (next r r' && okAt (r' :: l) 0) := by
      simp only [okAt, List.getElem?_cons_succ, List.getElem?_cons_zero, nextAt, List.length_cons, Bool.and_true]
      have : decide (1 + 1 = l.length + 1 + 1) = decide (0 + 1 = l.length + 1) := by congr 1; simp
      rw [this]
      cases next r r' <;> simp
    have hr : ∀ (f : Nat → Bool) (n : Nat), (List.range (n + 1)).all f = (f 0 && (List.range n).all fun i => f (i + 1)) := fun f n => by
      rw [List.range_succ_eq_map, List.all_cons, List.all_map]; rfl
    show (List.range ((r' :: l).length + 1)).all _ = _
    rw [hr, List.length_cons, hr]
    rw [List.length_cons, hr] at ih
    rw [chainOk, ← ih, e1, e2]
    have : ((List.range l.length).all fun i => okAt (r :: r' :: l) (i + 1 + 1)) = (List.range l.length).all fun i => okAt (r' :: l) (i + 1) := by
      congr 1; funext i; exact okAt_cons r (r' :: l) (i + 1) (by omega)
    rw [this]
    cases sized r <;> cases fine false r <;> cases next r r' <;> simp
theorem sized_iff (r : Rn) : sized r = true ↔ 1 ≤ r.2.2 ∧ r.2.2 ≤ 256 ∧ 0 ≤ r.1 ∧ r.1 ≤ maxT ∧ 0 ≤ r.2.1 ∧ r.2.1 ≤ maxT := by
  simp only [sized, Bool.and_eq_true, decide_eq_true_eq]
  constructor
  · rintro ⟨⟨⟨⟨⟨a, b⟩, c⟩, d⟩, e⟩, f⟩; exact ⟨a, b, c, d, e, f⟩
  · rintro ⟨a, b, c, d, e, f⟩; exact ⟨⟨⟨⟨⟨a, b⟩, c⟩, d⟩, e⟩, f⟩
theorem fine_iff (b : Bool) (r : Rn) : fine b r = true ↔ (r.2.2 = 1 ↔ r.2.1 = 0) ∧ (1 < r.2.2 ∨ b = true) ∧ last r ≤ maxT := by
  simp only [fine, Bool.and_eq_true, decide_eq_true_eq, Bool.or_eq_true, beq_iff_eq, decide_eq_decide]
  constructor
  · rintro ⟨⟨a, b⟩, c⟩; exact ⟨a, b, c⟩
  · rintro ⟨a, b, c⟩; exact ⟨⟨a, b⟩, c⟩
theorem next_iff (p r : Rn) : next p r = true ↔ last p < r.1 ∧ r.1 - last p ≠ p.2.1 := by
  simp only [next, Bool.and_eq_true, decide_eq_true_eq]
  constructor
  · rintro ⟨a, b⟩; exact ⟨by omega, b⟩
  · rintro ⟨a, b⟩; exact ⟨by omega, b⟩
theorem chain_sized : ∀ (l : List Rn), chainOk l = true → ∀ r ∈ l, sized r = true ∧ (r.2.2 = 1 ↔ r.2.1 = 0) ∧ last r ≤ maxT
  | [], _, r, hr => by cases hr
  | [a], h, r, hr => by
    rw [List.mem_singleton] at hr; subst hr
    simp only [chainOk, Bool.and_eq_true] at h
    exact ⟨h.1, ((fine_iff _ _).1 h.2).1, ((fine_iff _ _).1 h.2).2.2⟩
  | a :: b :: l, h, r, hr => by
    simp only [chainOk, Bool.and_eq_true] at h
    rcases List.mem_cons.1 hr with rfl | hr
    · exact ⟨h.1.1.1, ((fine_iff _ _).1 h.1.1.2).1, ((fine_iff _ _).1 h.1.1.2).2.2⟩
    · exact chain_sized (b :: l) h.2 r hr
theorem times_cons (r : Rn) (l : List Rn) : times (r :: l) = ts r ++ times l := rfl
theorem many_cons (r : Rn) (l : List Rn) : many (r :: l) = r.2.2 + many l := by simp [many]
theorem times_length : ∀ (l : List Rn), (∀ r ∈ l, 0 ≤ r.2.2) → ((times l).length : Int) = many l
  | [], _ => rfl
  | r :: l, h => by
    have ih := times_length l (fun x hx => h x (by simp [hx]))
    have := h r (by simp)
    rw [times_cons, many_cons, List.length_append, ts_length]
    omega
theorem many_len : ∀ (l : List Rn), (∀ r ∈ l, 1 ≤ r.2.2) → (l.length : Int) ≤ many l
  | [], _ => by simp [many]
  | r :: l, h => by
    have ih := many_len l (fun x hx => h x (by simp [hx]))
    have := h r (by simp)
    rw [many_cons, List.length_cons]; omega
/-- may these be times? -/
def upAt (t : List Int) (i : Nat) : Bool := match t[i]? with
  | some x => decide (0 ≤ x) && decide (x ≤ maxT) && (match i with | 0 => true | j + 1 => match t[j]? with | some p => decide (p < x) | none => true)
  | none => true
def risingB (t : List Int) : Bool := decide (1 ≤ t.length) && decide (t.length ≤ 256) && (List.range t.length).all (upAt t)
def UpL (t : List Int) : Prop := (∀ x ∈ t, 0 ≤ x ∧ x ≤ maxT) ∧ t.Pairwise (· < ·)
theorem upAt_cons (a : Int) (t : List Int) (i : Nat) (h : 0 < i) : upAt (a :: t) (i + 1) = upAt t i := by
  obtain ⟨j, rfl⟩ : ∃ j, i = j + 1 := ⟨i - 1, by omega⟩
  unfold upAt
  simp only [List.getElem?_cons_succ]
theorem up_all : ∀ (t : List Int), (List.range t.length).all (upAt t) = true ↔ UpL t
  | [] => by simp [UpL]
  | [a] => by simp [UpL, List.range_succ, upAt]
  | a :: b :: t => by
    have ih := up_all (b :: t)
    have hr : ∀ (f : Nat → Bool) (n : Nat), (List.range (n + 1)).all f = (f 0 && (List.range n).all fun i => f (i + 1)) := fun f n => by
      rw [List.range_succ_eq_map, List.all_cons, List.all_map]; rfl
    show (List.range ((b :: t).length + 1)).all _ = true ↔ _
    rw [hr, List.length_cons, hr]
    rw [List.length_cons, hr] at ih
    have e0 : upAt (a :: b :: t) 0 = (decide (0 ≤ a) && decide (a ≤ maxT)) := by simp [upAt]
    have e1 : upAt (a :: b :: t) 1 = (upAt (b :: t) 0 && decide (a < b)) := by simp [upAt]
    have e2 : ((List.range t.length).all fun i => upAt (a :: b :: t) (i + 1 + 1)) = (List.range t.length).all fun i => upAt (b :: t) (i + 1) := by
      congr 1
    rw [e0, e1, e2]
    simp only [Bool.and_eq_true, decide_eq_true_eq] at ih ⊢
    constructor
    · rintro ⟨⟨h1, h2⟩, ⟨h3, h4⟩, h5⟩
      obtain ⟨h6, h7⟩ := ih.1 ⟨h3, h5⟩
      refine ⟨fun x hx => ?_, List.pairwise_cons.2 ⟨fun x hx => ?_, h7⟩⟩
      · rcases List.mem_cons.1 hx with rfl | hx
        · exact ⟨h1, h2⟩
        · exact h6 x hx
      · rcases List.mem_cons.1 hx with rfl | hx
        · exact h4
        · exact Int.lt_trans h4 ((List.pairwise_cons.1 h7).1 x hx)
    · rintro ⟨h1, h2⟩
      obtain ⟨h3, h4⟩ := List.pairwise_cons.1 h2
      obtain ⟨h5, h6⟩ := ih.2 ⟨fun x hx => h1 x (by simp [hx]), h4⟩
      exact ⟨h1 a (by simp), ⟨h5, h3 b (by simp)⟩, h6⟩
theorem rising_iff (t : List Int) : risingB t = true ↔ 1 ≤ t.length ∧ t.length ≤ 256 ∧ UpL t := by
  simp only [risingB, Bool.and_eq_true, decide_eq_true_eq, up_all]
  constructor
  · rintro ⟨⟨a, b⟩, c⟩; exact ⟨a, b, c⟩
  · rintro ⟨a, b, c⟩; exact ⟨⟨a, b⟩, c⟩
/-- an open run that may be -/
def Cok (c : Rn) : Prop := 1 ≤ c.2.2 ∧ (c.2.2 = 1 ↔ c.2.1 = 0) ∧ 0 ≤ c.2.1 ∧ 0 ≤ c.1 ∧ last c ≤ maxT
theorem mul_ge {s n : Int} (hs : 0 ≤ s) (hn : 1 ≤ n) : s ≤ s * n := by
  have := Int.mul_le_mul_of_nonneg_left hn hs
  rwa [Int.mul_one] at this
theorem cok_bounds {c : Rn} (h : Cok c) : c.1 ≤ maxT ∧ c.2.1 ≤ maxT ∧ c.1 ≤ last c := by
  obtain ⟨h1, h2, h3, h4, h5⟩ := h
  have h6 : 0 ≤ c.2.1 * (c.2.2 - 1) := Int.mul_nonneg h3 (by omega)
  unfold last at h5 ⊢
  refine ⟨by omega, ?_, by omega⟩
  by_cases e : c.2.2 = 1
  · rw [h2.1 e]; unfold maxT; omega
  · have := mul_ge h3 (show 1 ≤ c.2.2 - 1 by omega)
    omega
theorem go_ok : ∀ (l : List Int) (c : Rn), Cok c → (∀ t ∈ l, last c < t ∧ t ≤ maxT) → l.Pairwise (· < ·) → c.2.2 + l.length ≤ 256 → chainOk (go c l) = true ∧ ∃ r rest, go c l = r :: rest ∧ r.1 = c.1
  | [], c, h, _, _, hn => by
    obtain ⟨b1, b2, b3⟩ := cok_bounds h
    obtain ⟨h1, h2, h3, h4, h5⟩ := h
    refine ⟨?_, c, [], rfl, rfl⟩
    simp only [go, chainOk, Bool.and_eq_true]
    simp at hn
    exact ⟨(sized_iff c).2 ⟨h1, by omega, h4, b1, h3, b2⟩, (fine_iff _ _).2 ⟨h2, .inr rfl, h5⟩⟩
  | t :: l, c, h, ht, hp, hn => by
    obtain ⟨b1, b2, b3⟩ := cok_bounds h
    obtain ⟨h1, h2, h3, h4, h5⟩ := h
    obtain ⟨hp1, hp2⟩ := List.pairwise_cons.1 hp
    obtain ⟨ht1, ht2⟩ := ht t (by simp)
    have htl := fun x hx => ht x (List.mem_cons_of_mem _ hx)
    rw [List.length_cons] at hn
    rw [go]
    by_cases e1 : c.2.2 = 1
    · rw [if_pos e1]
      have el : last c = c.1 := by unfold last; rw [e1]; simp
      have el2 : last (c.1, t - c.1, (2 : Int)) = t := by simp [last]; omega
      obtain ⟨g1, r, rest, g2, g3⟩ := go_ok l (c.1, t - c.1, 2) ⟨by simp, by simp; omega, by show 0 ≤ t - c.1; omega, h4, by rw [el2]; exact ht2⟩ (fun x hx => ⟨by rw [el2]; exact hp1 x hx, (htl x hx).2⟩) hp2 (by show (2 : Int) + _ ≤ _; omega)
      exact ⟨g1, r, rest, g2, g3⟩
    · rw [if_neg e1]
      by_cases e2 : t - last c = c.2.1
      · rw [if_pos e2]
        have el2 : last (c.1, c.2.1, c.2.2 + 1) = t := by
          unfold last at e2 ⊢
          have : c.2.1 * (c.2.2 + 1 - 1) = c.2.1 * (c.2.2 - 1) + c.2.1 := by rw [show c.2.2 + 1 - 1 = (c.2.2 - 1) + 1 by omega, Int.mul_add, Int.mul_one]
          simp only at *; omega
        have hs0 : c.2.1 ≠ 0 := fun e => e1 (h2.2 e)
        obtain ⟨g1, r, rest, g2, g3⟩ := go_ok l (c.1, c.2.1, c.2.2 + 1) ⟨by show 1 ≤ c.2.2 + 1; omega, by show c.2.2 + 1 = 1 ↔ _; constructor <;> intro h <;> first | omega | exact absurd h hs0, h3, h4, by rw [el2]; exact ht2⟩ (fun x hx => ⟨by rw [el2]; exact hp1 x hx, (htl x hx).2⟩) hp2 (by show c.2.2 + 1 + _ ≤ _; omega)
        exact ⟨g1, r, rest, g2, g3⟩
      · rw [if_neg e2]
        have el2 : last (t, (0 : Int), (1 : Int)) = t := by simp [last]
        obtain ⟨g1, r, rest, g2, g3⟩ := go_ok l (t, 0, 1) ⟨by simp, by simp, by simp, by show 0 ≤ t; omega, by rw [el2]; exact ht2⟩ (fun x hx => ⟨by rw [el2]; exact hp1 x hx, (htl x hx).2⟩) hp2 (by show (1 : Int) + _ ≤ _; omega)
        refine ⟨?_, c, _, rfl, rfl⟩
        rw [g2]
        rw [g2] at g1
        simp only [chainOk, Bool.and_eq_true]
        refine ⟨⟨⟨(sized_iff c).2 ⟨h1, by omega, h4, b1, h3, b2⟩, (fine_iff _ _).2 ⟨h2, .inl (by omega), h5⟩⟩, (next_iff _ _).2 ?_⟩, g1⟩
        rw [g3]
        exact ⟨ht1, e2⟩
/-- the runs of times that may be, may be -/
theorem rises_of {t : List Int} (h : risingB t = true) : risesB (ofR t) = true := by
  obtain ⟨h1, h2, h3, h4⟩ := (rising_iff t).1 h
  cases t with
  | nil => simp at h1
  | cons a l =>
    obtain ⟨hp1, hp2⟩ := List.pairwise_cons.1 h4
    have ha := h3 a (by simp)
    have el2 : last (a, (0 : Int), (1 : Int)) = a := by simp [last]
    rw [List.length_cons] at h2
    obtain ⟨g1, r, rest, g2, g3⟩ := go_ok l (a, 0, 1) ⟨by simp, by simp, by simp, ha.1, by rw [el2]; exact ha.2⟩ (fun x hx => ⟨by rw [el2]; exact hp1 x hx, (h3 x (by simp [hx])).2⟩) hp2 (by show (1 : Int) + _ ≤ _; omega)
    have hsz := chain_sized _ g1
    have hm : many (go (a, 0, 1) l) = (l.length + 1 : Nat) := by
      rw [← times_length _ (fun r hr => by have := (sized_iff r).1 (hsz r hr).1; omega), times_go _ (by simp), ts_one]
      simp
    have hl := many_len _ (fun r hr => ((sized_iff r).1 (hsz r hr).1).1)
    have h0 : 1 ≤ (go (a, 0, 1) l).length := by rw [g2]; simp
    show risesB (go (a, 0, 1) l) = true
    unfold risesB
    rw [chain_all, g1]
    simp only [Bool.and_eq_true, decide_eq_true_eq]
    exact ⟨⟨⟨h0, by omega⟩, trivial⟩, by omega⟩
theorem rises_iff (l : List Rn) : risesB l = true ↔ 1 ≤ l.length ∧ l.length ≤ 256 ∧ chainOk l = true ∧ many l ≤ 256 := by
  unfold risesB
  rw [chain_all]
  simp only [Bool.and_eq_true, decide_eq_true_eq]
  constructor
  · rintro ⟨⟨⟨a, b⟩, c⟩, d⟩; exact ⟨a, b, c, d⟩
  · rintro ⟨a, b, c, d⟩; exact ⟨⟨⟨a, b⟩, c⟩, d⟩
/-- a run's times, from the m-th on -/
def tsFrom (a s : Int) (m n : Nat) : List Int := (List.range' m (n - m)).map fun k : Nat => a + (k : Int) * s
theorem tsFrom_all (a s : Int) (n : Nat) : tsFrom a s 0 n = ts (a, s, (n : Int)) := by simp [tsFrom, ts, List.range_eq_range']
theorem tsFrom_step (a s : Int) (m n : Nat) (h : m < n) : tsFrom a s m n = (a + (m : Int) * s) :: tsFrom a s (m + 1) n := by
  unfold tsFrom
  obtain ⟨d, hd⟩ : ∃ d, n - m = d + 1 := ⟨n - m - 1, by omega⟩
  have e : n - (m + 1) = d := by omega
  rw [hd, e, List.range'_succ, List.map_cons]
theorem tsFrom_end (a s : Int) (n : Nat) : tsFrom a s n n = [] := by simp [tsFrom]
theorem last_nat (a s : Int) (n : Nat) : last (a, s, (n : Int) + 1) = a + (n : Int) * s := by
  simp only [last]
  rw [show (n : Int) + 1 - 1 = n by omega, Int.mul_comm]
theorem go_run (a s : Int) (n : Nat) (d : Nat) : ∀ (m : Nat), 2 ≤ m → m + d = n → ∀ rest, go (a, s, (m : Int)) (tsFrom a s m n ++ rest) = go (a, s, (n : Int)) rest := by
  induction d with
  | zero => intro m _ hm rest; obtain rfl : m = n := by omega
            rw [tsFrom_end]; rfl
  | succ d ih =>
    intro m hm hd rest
    rw [tsFrom_step a s m n (by omega), List.cons_append, go, if_neg (by show ¬ (m : Int) = 1; omega)]
    obtain ⟨j, rfl⟩ : ∃ j, m = j + 1 := ⟨m - 1, by omega⟩
    have hl : last (a, s, ((j + 1 : Nat) : Int)) = a + (j : Int) * s := last_nat a s j
    have e : a + ((j + 1 : Nat) : Int) * s - last (a, s, ((j + 1 : Nat) : Int)) = s := by
      rw [hl, show ((j + 1 : Nat) : Int) = (j : Int) + 1 by rfl, Int.add_mul, Int.one_mul]; omega
    rw [if_pos e]
    exact ih (j + 1 + 1) (by omega) (by omega) rest
/-- a run's times, taken one behind the other, are that run -/
theorem go_first (r : Rn) (h1 : 1 ≤ r.2.2) (h2 : r.2.2 = 1 → r.2.1 = 0) (rest : List Int) : ∃ x, ts r ++ rest = r.1 :: x ∧ go (r.1, 0, 1) x = go r rest := by
  obtain ⟨a, s, c⟩ := r
  obtain ⟨n, rfl⟩ : ∃ n : Nat, c = (n : Int) := ⟨c.toNat, by simp at h1; omega⟩
  simp only at h1 h2 ⊢
  by_cases e1 : n = 1
  · subst e1
    have hs := h2 rfl
    subst hs
    exact ⟨rest, by rw [show ((1 : Nat) : Int) = 1 by rfl, ts_one]; rfl, rfl⟩
  · refine ⟨tsFrom a s 1 n ++ rest, ?_, ?_⟩
    · rw [← tsFrom_all, tsFrom_step a s 0 n (by omega)]; simp
    · rw [tsFrom_step a s 1 n (by omega), List.cons_append, go, if_pos rfl]
      have e : (a, a + ((1 : Nat) : Int) * s - a, (2 : Int)) = (a, s, ((2 : Nat) : Int)) := by simp; omega
      rw [e]
      exact go_run a s n (n - 2) 2 (by omega) (by omega) rest
theorem go_times : ∀ (l : List Rn) (r : Rn), chainOk (r :: l) = true → ∃ x, times (r :: l) = r.1 :: x ∧ go (r.1, 0, 1) x = r :: l
  | [], r, h => by
    have hs := chain_sized [r] h r (by simp)
    obtain ⟨x, hx1, hx2⟩ := go_first r ((sized_iff r).1 hs.1).1 hs.2.1.1 []
    exact ⟨x, by rw [times_cons]; exact hx1, by rw [hx2]; rfl⟩
  | b :: l, r, h => by
    have hs := chain_sized _ h r (by simp)
    simp only [chainOk, Bool.and_eq_true] at h
    obtain ⟨⟨⟨h1, h2⟩, h3⟩, h4⟩ := h
    obtain ⟨y, hy1, hy2⟩ := go_times l b h4
    obtain ⟨x, hx1, hx2⟩ := go_first r ((sized_iff r).1 h1).1 hs.2.1.1 (times (b :: l))
    refine ⟨x, by rw [times_cons]; exact hx1, ?_⟩
    rw [hx2, hy1, go, if_neg (by have := ((fine_iff _ _).1 h2).2.1; simp at this; omega), if_neg ((next_iff _ _).1 h3).2, hy2]
/-- runs that may be are those of their times -/
theorem of_times {l : List Rn} (h : chainOk l = true) : ofR (times l) = l := by
  cases l with
  | nil => rfl
  | cons r l =>
    obtain ⟨x, h1, h2⟩ := go_times l r h
    rw [h1]; exact h2
theorem ts_up (r : Rn) (h : Cok r) : (∀ x ∈ ts r, r.1 ≤ x ∧ x ≤ last r) ∧ (ts r).Pairwise (· < ·) := by
  obtain ⟨a, s, c⟩ := r
  obtain ⟨h1, h2, h3, h4, h5⟩ := h
  simp only at h1 h2 h3 h4
  obtain ⟨n, rfl⟩ : ∃ n : Nat, c = (n : Int) + 1 := ⟨(c - 1).toNat, by omega⟩
  have e : ((n : Int) + 1).toNat = n + 1 := by omega
  constructor
  · intro x hx
    unfold ts at hx
    rw [e] at hx
    obtain ⟨k, hk, rfl⟩ := List.mem_map.1 hx
    have hk := List.mem_range.1 hk
    rw [last_nat]
    have h0 : 0 ≤ (k : Int) * s := Int.mul_nonneg (by omega) h3
    have h6 : (k : Int) * s ≤ (n : Int) * s := Int.mul_le_mul_of_nonneg_right (by omega) h3
    simp only
    omega
  · unfold ts
    rw [e]
    refine List.Pairwise.map _ (R := fun i j : Nat => i < j ∧ j < n + 1) (fun i j hij => ?_) ?_
    · have hs : 0 < s := by
        have : ¬ s = 0 := fun e => by have := h2.2 e; omega
        omega
      have : (i : Int) * s < (j : Int) * s := Int.mul_lt_mul_of_pos_right (by omega) hs
      simp only; omega
    · rw [List.pairwise_iff_getElem]
      intro i j hi hj hij
      simp at hi hj ⊢
      omega
theorem cok_of {r : Rn} (h : sized r = true) (h2 : r.2.2 = 1 ↔ r.2.1 = 0) (h3 : last r ≤ maxT) : Cok r := by
  have := (sized_iff r).1 h
  exact ⟨this.1, h2, this.2.2.2.2.1, this.2.2.1, h3⟩
theorem times_up : ∀ (l : List Rn), chainOk l = true → UpL (times l) ∧ ∀ r rest, l = r :: rest → ∀ x ∈ times l, r.1 ≤ x
  | [], _ => ⟨⟨fun x hx => (by cases hx), List.Pairwise.nil⟩, fun r rest h => (by cases h)⟩
  | [r], h => by
    have hs := chain_sized [r] h r (by simp)
    have hc := cok_of hs.1 hs.2.1 hs.2.2
    obtain ⟨h1, h2⟩ := ts_up r hc
    have e : times [r] = ts r := by simp [times]
    rw [e]
    refine ⟨⟨fun x hx => ?_, h2⟩, fun r' rest he x hx => ?_⟩
    · have := h1 x hx; have := hc.2.2.2.1; have := hc.2.2.2.2; omega
    · cases he; exact (h1 x hx).1
  | r :: b :: l, h => by
    have hs := chain_sized _ h r (by simp)
    have hc := cok_of hs.1 hs.2.1 hs.2.2
    simp only [chainOk, Bool.and_eq_true] at h
    obtain ⟨⟨⟨_, _⟩, h3⟩, h4⟩ := h
    obtain ⟨⟨u1, u2⟩, u3⟩ := times_up (b :: l) h4
    obtain ⟨h1, h2⟩ := ts_up r hc
    have hn := (next_iff _ _).1 h3
    have hb := cok_bounds hc
    rw [times_cons]
    refine ⟨⟨fun x hx => ?_, List.pairwise_append.2 ⟨h2, u2, fun x hx y hy => ?_⟩⟩, fun r' rest he x hx => ?_⟩
    · rcases List.mem_append.1 hx with hx | hx
      · have := h1 x hx; have := hc.2.2.2.1; have := hc.2.2.2.2; omega
      · exact u1 x hx
    · have := h1 x hx; have := u3 b l rfl y hy; omega
    · cases he
      rcases List.mem_append.1 hx with hx | hx
      · exact (h1 x hx).1
      · have := u3 b l rfl x hx; omega
theorem times_rising {l : List Rn} (h : risesB l = true) : risingB (times l) = true := by
  obtain ⟨h1, h2, h3, h4⟩ := (rises_iff l).1 h
  have hs := chain_sized l h3
  have hl := times_length l (fun r hr => by have := (sized_iff r).1 (hs r hr).1; omega)
  have hm := many_len l (fun r hr => ((sized_iff r).1 (hs r hr).1).1)
  exact (rising_iff _).2 ⟨by omega, by omega, (times_up l h3).1⟩
/-- the document's times: none, if they cannot be gone through -/
def timesD (l : List Rn) : List Int := if l.all sized && decide (many l ≤ 256) then times l else []
def rightR (l : List Rn) : Bool := risingB (timesD l) && decide (ofR (timesD l) = l)
theorem timesD_rises {l : List Rn} (h : risesB l = true) : timesD l = times l := by
  obtain ⟨h1, h2, h3, h4⟩ := (rises_iff l).1 h
  unfold timesD
  rw [if_pos]
  simp only [Bool.and_eq_true, decide_eq_true_eq, List.all_eq_true]
  exact ⟨fun r hr => (chain_sized l h3 r hr).1, h4⟩
/-- the program and the document say the same of runs -/
theorem right_rises (l : List Rn) : rightR l = risesB l := by
  cases h : risesB l with
  | true =>
    have hd := timesD_rises h
    unfold rightR
    rw [hd, times_rising h, of_times ((rises_iff l).1 h).2.2.1]
    simp
  | false =>
    cases hr : rightR l with
    | false => rfl
    | true =>
      simp only [rightR, Bool.and_eq_true, decide_eq_true_eq] at hr
      have := rises_of hr.1
      rw [hr.2, h] at this
      cases this
end Ru
end
