/-
  THE LOG, in plain Lean: a group's pages, the group that lies at a place, the groups behind a stamp.
-/
import Derived.Test.YtlddjcilbpcciaaLg2
section
namespace Lg
open Go Go.RowKit Agg Pg Dv
/-- a group's part on a page: which one it is, of how many, and bytes -/
def partL (B : List UInt8) (m i : Nat) : List UInt8 := UInt8.ofNat i :: UInt8.ofNat m :: (B.drop (118 * i)).take 118
theorem partL_len (B : List UInt8) (m i : Nat) : (partL B m i).length ≤ 120 := by unfold partL; simp only [List.length_cons, List.length_take]; omega
theorem need_step {m : Nat} {B : List UInt8} (h : (m : Int) = needL B.length) : B.length ≤ 118 * m ∧ ∀ k, k < m → 118 * k < B.length := by
  unfold needL at h
  split at h
  · exact ⟨by omega, fun k hk => by omega⟩
  · exact ⟨by omega, fun k hk => by omega⟩
end Lg
namespace Go.Proofs.Ytlddjcilbpcciaa
open Go.ChangeShapes Go.WideShapes Go.ChangeAt Go.RowKit Agg Pg Dv Lg
theorem readR_cases (b : List Sec) (hb : BOk b) (k : Int) (d : List UInt8) (n : Nat) (er : Int) (h : readR b = ((k, d), n, er)) : (er = 0 ∧ pageP k d ∧ stampP n ∧ layB k d n = b) ∨ (er ≠ 0 ∧ k = 0 ∧ d = [] ∧ n = 0) := by
  unfold readR at h
  split at h
  · rename_i hs
    split at h
    · rename_i hh
      split at h
      · rename_i hf
        simp only [Prod.mk.injEq] at h
        obtain ⟨⟨rfl, rfl⟩, rfl, rfl⟩ := h
        simp only [stampB, Bool.and_eq_true, decide_eq_true_eq, List.all_eq_true, beq_iff_eq] at hs
        have hl := lay_again b hb.1 hb.len hs.2 hh hf
        exact .inl ⟨rfl, hl.1, hs.1, hl.2⟩
      · simp only [Prod.mk.injEq] at h
        obtain ⟨⟨rfl, rfl⟩, rfl, rfl⟩ := h
        exact .inr ⟨by decide, rfl, rfl, rfl⟩
    · simp only [Prod.mk.injEq] at h
      obtain ⟨⟨rfl, rfl⟩, rfl, rfl⟩ := h
      exact .inr ⟨by decide, rfl, rfl, rfl⟩
  · simp only [Prod.mk.injEq] at h
    obtain ⟨⟨rfl, rfl⟩, rfl, rfl⟩ := h
    exact .inr ⟨by decide, rfl, rfl, rfl⟩
theorem readR_two (b : List Sec) (hb : BOk b) : ((readR b).2.2 = 0 ∧ pageP (readR b).1.1 (readR b).1.2 ∧ stampP (readR b).2.1 ∧ layB (readR b).1.1 (readR b).1.2 (readR b).2.1 = b) ∨ ((readR b).2.2 ≠ 0 ∧ (readR b).1.1 = 0 ∧ (readR b).1.2 = [] ∧ (readR b).2.1 = 0) := readR_cases b hb _ _ _ _ rfl
theorem readP_bok {d : Dev} (h : DGood d) (k : Int) : BOk (readP d k).2 := by
  rw [readP]
  split
  · exact zeroB_bok
  · split
    · exact zeroB_bok
    · split
      · exact zeroB_bok
      · exact saysP_bok h.pages h.cache k
theorem u64_small {k : Int} (h0 : 0 ≤ k) (h1 : k < 18446744073709551616) : IntKind.u64.wrap k = k := by
  rw [u64_wrap, Int.emod_eq_of_lt h0 h1]
/-- as it is laid: none where it may not be -/
def layL (d : List UInt8) (n : Nat) : List Sec := (layR 2 d n).1
def blkG (n : Nat) (B : List UInt8) (m k : Nat) : List (List Sec) := (List.range k).map fun i => layL (partL B m i) (n + i)
theorem blkG_length (n : Nat) (B : List UInt8) (m k : Nat) : (blkG n B m k).length = k := by simp [blkG]
theorem blkG_succ (n : Nat) (B : List UInt8) (m k : Nat) : blkG n B m (k + 1) = blkG n B m k ++ [layL (partL B m k) (n + k)] := by
  unfold blkG; rw [List.range_succ, List.map_append]; rfl
theorem blkG_get (n : Nat) (B : List UInt8) (m k i : Nat) (h : i < (blkG n B m k).length) : (blkG n B m k)[i] = layL (partL B m i) (n + i) := by simp [blkG]
theorem layL_bok (d : List UInt8) (n : Nat) : BOk (layL d n) := layR_bok 2 d n
theorem blkG_bok (n : Nat) (B : List UInt8) (m k : Nat) : ∀ b ∈ blkG n B m k, BOk b := by
  intro b hb
  obtain ⟨i, _, rfl⟩ := List.mem_map.1 hb
  exact layL_bok _ _
theorem layL_ok {d : List UInt8} {n : Nat} (h : d.length ≤ 120) (hn : stampP n) : layL d n = layB 2 d n := by
  unfold layL layR
  rw [if_pos ⟨⟨by decide, by decide, h⟩, hn⟩]
/-- is a block a page of the log? -/
noncomputable def pOk (b : List Sec) : Bool := decide ((readR b).2.2 = 0) && decide ((readR b).1.1 = 2) && decide (3 ≤ (readR b).1.2.length)
noncomputable def pData (b : List Sec) : List UInt8 := (readR b).1.2
noncomputable def pSt (b : List Sec) : Nat := (readR b).2.1
theorem pOk_iff (b : List Sec) : pOk b = true ↔ (readR b).2.2 = 0 ∧ (readR b).1.1 = 2 ∧ 3 ≤ (readR b).1.2.length := by
  unfold pOk; simp only [Bool.and_eq_true, decide_eq_true_eq, and_assoc]
/-- what the first pages say -/
noncomputable def grp (f : Nat → List Sec) (p m : Nat) : List UInt8 := (List.range m).flatMap fun i => (pData (f (p + i))).drop 2
theorem grp_succ (f : Nat → List Sec) (p m : Nat) : grp f p (m + 1) = grp f p m ++ (pData (f (p + m))).drop 2 := by
  unfold grp; rw [List.range_succ, List.flatMap_append]; simp
theorem grp_len (f : Nat → List Sec) (p m : Nat) (h : ∀ i, BOk (f i)) : (grp f p m).length ≤ 118 * m := by
  induction m with
  | zero => simp [grp]
  | succ m ih =>
    rw [grp_succ, List.length_append, List.length_drop]
    have : (pData (f (p + m))).length ≤ 120 := by
      unfold pData
      rcases readR_two _ (h (p + m)) with ⟨_, h2, _⟩ | ⟨_, _, h2, _⟩
      · exact h2.2.2
      · rw [h2]; simp
    omega
noncomputable def okTo (f : Nat → List Sec) (p m : Nat) : Bool := (List.range m).all fun i => pOk (f (p + i))
theorem okTo_iff (f : Nat → List Sec) (p m : Nat) : okTo f p m = true ↔ ∀ i, i < m → pOk (f (p + i)) = true := by
  unfold okTo; simp only [List.all_eq_true, List.mem_range]
theorem okTo_succ (f : Nat → List Sec) (p m : Nat) : okTo f p (m + 1) = (okTo f p m && pOk (f (p + m))) := by
  unfold okTo; rw [List.range_succ, List.all_append]; simp
noncomputable def sameB (f : Nat → List Sec) (p m k : Nat) : Bool := (List.range k).all fun i => decide (layL (partL (grp f p m) m i) (pSt (f p) + i) = f (p + i))
theorem sameB_succ (f : Nat → List Sec) (p m k : Nat) : sameB f p m (k + 1) = (sameB f p m k && decide (layL (partL (grp f p m) m k) (pSt (f p) + k) = f (p + k))) := by
  unfold sameB; rw [List.range_succ, List.all_append]; simp
theorem sameB_iff (f : Nat → List Sec) (p m k : Nat) : sameB f p m k = true ↔ ∀ i, i < k → layL (partL (grp f p m) m i) (pSt (f p) + i) = f (p + i) := by
  unfold sameB; simp only [List.all_eq_true, List.mem_range, decide_eq_true_eq]
/-- does a group of so many pages lie there? -/
noncomputable def tryB (f : Nat → List Sec) (p last m : Nat) : Bool := okTo f p m && decide (last < pSt (f p)) && decide (needL (grp f p m).length = (m : Int)) && sameB f p m m
/-- a group lies there -/
structure Lies (f : Nat → List Sec) (p : Nat) (g : List UInt8) (m S : Nat) : Prop where
  pos : 1 ≤ m
  need : needL g.length = (m : Int)
  blk : ∀ i, i < m → f (p + i) = layB 2 (partL g m i) (S + i) ∧ stampP (S + i)
theorem readR_zero : (readR zeroB).2.2 ≠ 0 := by
  have h0 : stampB zeroB = false := by decide +kernel
  unfold readR
  rw [h0]
  decide
theorem lay_reads {g : List UInt8} {m i n : Nat} (hn : stampP n) : readR (layB 2 (partL g m i) n) = ((2, partL g m i), n, 0) := read_lay 2 _ n ⟨by decide, by decide, partL_len g m i⟩ hn
theorem try_lies {f : Nat → List Sec} {p last m : Nat} (h : tryB f p last m = true) (h1 : 1 ≤ m) : Lies f p (grp f p m) m (pSt (f p)) ∧ last < pSt (f p) := by
  unfold tryB at h
  simp only [Bool.and_eq_true, decide_eq_true_eq] at h
  obtain ⟨⟨⟨a, b⟩, c⟩, d⟩ := h
  refine ⟨⟨h1, c, fun i hi => ?_⟩, b⟩
  have h2 := (sameB_iff _ _ _ _).1 d i hi
  have h3 := (pOk_iff _).1 ((okTo_iff _ _ _).1 a i hi)
  rw [← h2] at h3
  unfold layL layR at h3 h2
  by_cases hc : pageP 2 (partL (grp f p m) m i) ∧ stampP (pSt (f p) + i)
  · rw [if_pos hc] at h2
    exact ⟨h2.symm, hc.2⟩
  · rw [if_neg hc] at h3
    exact absurd h3.1 readR_zero
theorem Lies.data {f : Nat → List Sec} {p m S : Nat} {g : List UInt8} (h : Lies f p g m S) {i : Nat} (hi : i < m) : pData (f (p + i)) = partL g m i ∧ pSt (f (p + i)) = S + i ∧ pOk (f (p + i)) = true := by
  obtain ⟨h1, h2⟩ := h.blk i hi
  have h3 := lay_reads (g := g) (m := m) (i := i) h2
  obtain ⟨_, h5⟩ := need_step h.need.symm
  have h6 := h5 i hi
  rw [← h1] at h3
  refine ⟨by unfold pData; rw [h3], by unfold pSt; rw [h3], (pOk_iff _).2 ?_⟩
  rw [h3]
  refine ⟨rfl, rfl, ?_⟩
  show 3 ≤ (partL g m i).length
  unfold partL
  simp only [List.length_cons, List.length_take, List.length_drop]
  omega
theorem Lies.grpK {f : Nat → List Sec} {p m S : Nat} {g : List UInt8} (h : Lies f p g m S) (k : Nat) (hk : k ≤ m) : grp f p k = g.take (118 * k) := by
  induction k with
  | zero => simp [grp]
  | succ k ih =>
    rw [grp_succ, ih (by omega), (h.data (i := k) (by omega)).1]
    show _ ++ (g.drop (118 * k)).take 118 = _
    rw [show 118 * (k + 1) = 118 * k + 118 by omega, List.take_add]
theorem Lies.grp {f : Nat → List Sec} {p m S : Nat} {g : List UInt8} (h : Lies f p g m S) : Go.Proofs.Ytlddjcilbpcciaa.grp f p m = g := by
  rw [h.grpK m (Nat.le_refl _), List.take_of_length_le (need_step h.need.symm).1]
theorem Lies.st {f : Nat → List Sec} {p m S : Nat} {g : List UInt8} (h : Lies f p g m S) : pSt (f p) = S := (h.data (i := 0) h.pos).2.1
theorem Lies.try {f : Nat → List Sec} {p m S last : Nat} {g : List UInt8} (h : Lies f p g m S) (hl : last < S) : tryB f p last m = true := by
  unfold tryB
  simp only [Bool.and_eq_true, decide_eq_true_eq]
  refine ⟨⟨⟨(okTo_iff _ _ _).2 fun i hi => (h.data hi).2.2, by rw [h.st]; exact hl⟩, by rw [h.grp]; exact h.need⟩, (sameB_iff _ _ _ _).2 fun i hi => ?_⟩
  rw [h.grp, h.st, (h.blk i hi).1, layL_ok (partL_len _ _ _) (h.blk i hi).2]
/-- how many it says that they are -/
noncomputable def manyB (b : List Sec) : Nat := ((pData b).getD 1 0).toNat
theorem Lies.many {f : Nat → List Sec} {p m S : Nat} {g : List UInt8} (h : Lies f p g m S) (hm : m ≤ 255) {i : Nat} (hi : i < m) : manyB (f (p + i)) = m := by
  unfold manyB
  rw [(h.data hi).1]
  show (UInt8.ofNat m).toNat = m
  rw [UInt8.toNat_ofNat']
  omega
/-- how many pages has the group there? 0: none lies there -/
noncomputable def nextF (f : Nat → List Sec) (p last : Nat) : Nat → Nat → Nat
  | _, 0 => 0
  | m, n + 1 => if tryB f p last m then m else nextF f p last (m + 1) n
noncomputable def nextG (f : Nat → List Sec) (p last : Nat) : Nat := nextF f p last 1 (16 - p)
theorem nextF_some {f : Nat → List Sec} {p last : Nat} : ∀ (n m : Nat), nextF f p last m n = 0 ∧ (∀ k, m ≤ k → k < m + n → tryB f p last k = false) ∨ m ≤ nextF f p last m n ∧ nextF f p last m n < m + n ∧ tryB f p last (nextF f p last m n) = true := by
  intro n
  induction n with
  | zero => exact fun m => .inl ⟨rfl, fun k h1 h2 => by omega⟩
  | succ n ih =>
    intro m
    rw [nextF]
    cases ht : tryB f p last m with
    | true => rw [if_pos rfl]; exact .inr ⟨Nat.le_refl _, by omega, ht⟩
    | false =>
      rw [if_neg (by decide)]
      rcases ih (m + 1) with ⟨h1, h2⟩ | ⟨h1, h2, h3⟩
      · refine .inl ⟨h1, fun k hk hk2 => ?_⟩
        by_cases e : k = m
        · rw [e]; exact ht
        · exact h2 k (by omega) (by omega)
      · exact .inr ⟨by omega, by omega, h3⟩
theorem nextG_cases (f : Nat → List Sec) (p last : Nat) : nextG f p last = 0 ∧ (∀ k, 1 ≤ k → k ≤ 16 - p → tryB f p last k = false) ∨ 1 ≤ nextG f p last ∧ nextG f p last ≤ 16 - p ∧ tryB f p last (nextG f p last) = true := by
  rcases nextF_some (f := f) (p := p) (last := last) (16 - p) 1 with ⟨h1, h2⟩ | ⟨h1, h2, h3⟩
  · exact .inl ⟨h1, fun k a b => h2 k a (by omega)⟩
  · exact .inr ⟨h1, by show nextF _ _ _ _ _ ≤ _; omega, h3⟩
theorem nextG_le {f : Nat → List Sec} {p last : Nat} (h : p ≤ 16) : p + nextG f p last ≤ 16 := by
  rcases nextG_cases f p last with ⟨h1, _⟩ | ⟨_, h2, _⟩ <;> omega
/-- where a reader stops -/
structure StopAt (f : Nat → List Sec) (p k : Nat) : Prop where
  le : k ≤ 16 - p
  ok : ∀ i, i < k → pOk (f (p + i)) = true
  on : ∀ j, j + 1 < k → j + 1 < manyB (f (p + j))
  stop : (∃ j, k = j + 1 ∧ manyB (f (p + j)) ≤ k) ∨ k = 16 - p ∨ pOk (f (p + k)) = false
theorem stop_try {f : Nat → List Sec} {p last m k : Nat} (hs : StopAt f p k) (h : tryB f p last m = true) (h1 : 1 ≤ m) (h2 : m ≤ 16 - p) : m = k := by
  obtain ⟨hl, _⟩ := try_lies h h1
  have hm := fun i (hi : i < m) => hl.many (by omega) hi
  rcases Nat.lt_trichotomy m k with h3 | h3 | h3
  · have a := hs.on (m - 1) (by omega)
    rw [hm (m - 1) (by omega)] at a
    omega
  · exact h3
  · rcases hs.stop with ⟨j, hj, h4⟩ | h4 | h4
    · rw [hm j (by omega)] at h4; omega
    · omega
    · rw [(hl.data h3).2.2] at h4; cases h4
theorem nextG_stop {f : Nat → List Sec} {p last k : Nat} (hs : StopAt f p k) : nextG f p last = if k ≠ 0 ∧ tryB f p last k = true then k else 0 := by
  rcases nextG_cases f p last with ⟨h1, h2⟩ | ⟨h1, h2, h3⟩
  · rw [h1, if_neg]
    rintro ⟨h4, h5⟩
    rw [h2 k (by omega) hs.le] at h5
    cases h5
  · have e := stop_try hs h3 h1 h2
    rw [e] at h1 h3 ⊢
    rw [if_pos ⟨by omega, h3⟩]
/-- the groups behind a stamp, and where the log ends -/
noncomputable def repG (f : Nat → List Sec) (p last : Nat) : List (List UInt8) × Nat × Nat :=
  if nextG f p last = 0 then ([], p, last) else (grp f p (nextG f p last) :: (repG f (p + nextG f p last) (pSt (f p) + nextG f p last - 1)).1, (repG f (p + nextG f p last) (pSt (f p) + nextG f p last - 1)).2)
termination_by 16 - p
decreasing_by
  all_goals
    rcases nextG_cases f p last with ⟨h1, _⟩ | ⟨h1, h2, _⟩
    · contradiction
    · omega
theorem repG_end {f : Nat → List Sec} {p last : Nat} (h : nextG f p last = 0) : repG f p last = ([], p, last) := by rw [repG, if_pos h]
theorem repG_next {f : Nat → List Sec} {p last m : Nat} (h : nextG f p last = m) (hm : m ≠ 0) : repG f p last = (grp f p m :: (repG f (p + m) (pSt (f p) + m - 1)).1, (repG f (p + m) (pSt (f p) + m - 1)).2) := by
  rw [repG, if_neg (by rw [h]; exact hm), h]
/-- groups lie one behind the other -/
def ChainL (f : Nat → List Sec) : Nat → Nat → List (List UInt8) → Nat → Nat → Prop
  | p, last, [], q, l2 => p = q ∧ last = l2
  | p, last, g :: gs, q, l2 => ∃ m S, Lies f p g m S ∧ last < S ∧ p + m ≤ 16 ∧ ChainL f (p + m) (S + m - 1) gs q l2
theorem next_lies {f : Nat → List Sec} {p m S last : Nat} {g : List UInt8} (h : Lies f p g m S) (hl : last < S) (h16 : p + m ≤ 16) : nextG f p last = m := by
  have ht := h.try hl
  have hpos := h.pos
  rcases nextG_cases f p last with ⟨_, h2⟩ | ⟨h1, h2, h3⟩
  · rw [h2 m hpos (by omega)] at ht; cases ht
  · obtain ⟨hl2, _⟩ := try_lies h3 h1
    have a := h.many (by omega) (i := 0) hpos
    have b := hl2.many (by omega) (i := 0) h1
    omega
theorem rep_chain {f : Nat → List Sec} {gs : List (List UInt8)} : ∀ {p last q l2 : Nat}, ChainL f p last gs q l2 → nextG f q l2 = 0 → repG f p last = (gs, q, l2) := by
  induction gs with
  | nil =>
    rintro p last q l2 ⟨rfl, rfl⟩ h
    exact repG_end h
  | cons g gs ih =>
    rintro p last q l2 ⟨m, S, h1, h2, h3, h4⟩ h
    rw [repG_next (next_lies h1 h2 h3) (by have := h1.pos; omega), h1.grp, h1.st, ih h4 h]
theorem chain_app {f : Nat → List Sec} {gs hs : List (List UInt8)} : ∀ {p last q l2 q3 l3 : Nat}, ChainL f p last gs q l2 → ChainL f q l2 hs q3 l3 → ChainL f p last (gs ++ hs) q3 l3 := by
  induction gs with
  | nil =>
    rintro p last q l2 q3 l3 ⟨rfl, rfl⟩ h
    exact h
  | cons g gs ih =>
    rintro p last q l2 q3 l3 ⟨m, S, h1, h2, h3, h4⟩ h
    exact ⟨m, S, h1, h2, h3, ih h4 h⟩
theorem chain_le {f : Nat → List Sec} {gs : List (List UInt8)} : ∀ {p last q l2 : Nat}, ChainL f p last gs q l2 → p ≤ q ∧ last ≤ l2 := by
  induction gs with
  | nil =>
    rintro p last q l2 ⟨rfl, rfl⟩
    exact ⟨Nat.le_refl _, Nat.le_refl _⟩
  | cons g gs ih =>
    rintro p last q l2 ⟨m, S, h1, h2, h3, h4⟩
    have := ih h4
    have := h1.pos
    omega
theorem Lies.congr {f f' : Nat → List Sec} {p m S : Nat} {g : List UInt8} (h : Lies f p g m S) (he : ∀ i, i < p + m → f' i = f i) : Lies f' p g m S :=
  ⟨h.pos, h.need, fun i hi => by rw [he _ (by omega)]; exact h.blk i hi⟩
theorem chain_congr {f f' : Nat → List Sec} {gs : List (List UInt8)} : ∀ {p last q l2 : Nat}, ChainL f p last gs q l2 → (∀ i, i < q → f' i = f i) → ChainL f' p last gs q l2 := by
  induction gs with
  | nil => exact fun h _ => h
  | cons g gs ih =>
    rintro p last q l2 ⟨m, S, h1, h2, h3, h4⟩ he
    have := (chain_le h4).1
    exact ⟨m, S, h1.congr (fun i hi => he i (by omega)), h2, h3, ih h4 he⟩
/-- behind a stamp above all that lie there there is none -/
theorem next_none {f : Nat → List Sec} {p last : Nat} (h : pSt (f p) ≤ last) : nextG f p last = 0 := by
  rcases nextG_cases f p last with ⟨h1, _⟩ | ⟨h1, _, h3⟩
  · exact h1
  · have := (try_lies h3 h1).2; omega
theorem pSt_le {b : List Sec} (h : BOk b) : pSt b ≤ 4611686018427387904 := by
  unfold pSt
  rcases readR_two _ h with ⟨_, _, h2, _⟩ | ⟨_, _, _, h2⟩
  · exact h2.2
  · rw [h2]; decide
/-- what the groups come to -/
theorem rep_facts {f : Nat → List Sec} (hf : ∀ i, BOk (f i)) : ∀ (n p last : Nat), 16 - p ≤ n → p ≤ 16 → (∀ g ∈ (repG f p last).1, g ≠ []) ∧ ((repG f p last).1.map fun g => needL g.length).sum = ((repG f p last).2.1 : Int) - p ∧ p ≤ (repG f p last).2.1 ∧ (repG f p last).2.1 ≤ 16 ∧ last + ((repG f p last).2.1 - p) ≤ (repG f p last).2.2 ∧ ((repG f p last).2.1 = p → (repG f p last).2.2 = last) ∧ ((repG f p last).2.2 = last ∨ (repG f p last).2.2 ≤ 4611686018427387904) := by
  intro n
  induction n with
  | zero =>
    intro p last h1 h2
    have h3 : nextG f p last = 0 := by unfold nextG; rw [show 16 - p = 0 by omega]; rfl
    rw [repG_end h3]
    exact ⟨by simp, by simp, by simp, h2, by simp, fun _ => rfl, .inl rfl⟩
  | succ n ih =>
    intro p last h1 h2
    by_cases h3 : nextG f p last = 0
    · rw [repG_end h3]
      exact ⟨by simp, by simp, by simp, h2, by simp, fun _ => rfl, .inl rfl⟩
    · obtain ⟨m, hm⟩ : ∃ m, nextG f p last = m := ⟨_, rfl⟩
      rw [hm] at h3
      rw [repG_next hm h3]
      rcases nextG_cases f p last with ⟨h4, _⟩ | ⟨h4, h5, h6⟩
      · omega
      · rw [hm] at h4 h5 h6
        obtain ⟨hl, hS⟩ := try_lies h6 h4
        obtain ⟨a, b, c, d, e, g, k⟩ := ih (p + m) (pSt (f p) + m - 1) (by omega) (by omega)
        generalize repG f (p + m) (pSt (f p) + m - 1) = R at *
        have hst := (hl.blk (m - 1) (by omega)).2.2
        dsimp only
        refine ⟨fun x hx => ?_, ?_, by omega, d, by omega, fun h => by omega, ?_⟩
        · rcases List.mem_cons.1 hx with rfl | hx
          · intro hn
            have := hl.need
            rw [hn] at this
            unfold needL at this
            simp at this
            omega
          · exact a x hx
        · rw [List.map_cons, List.sum_cons, b, hl.need]; omega
        · rcases k with k | k
          · right; rw [k]; omega
          · exact .inr k
end Go.Proofs.Ytlddjcilbpcciaa
end
section
/-
  THE LOG: the blocks of a group's pages.
-/
namespace Lg
open Go Go.RowKit Agg Pg Dv
theorem gSlice3 {P : Program} {w : World} {o : Oper} {Q : Exit → Act → World → Prop} {ops : Array Oper} {rest : List Oper} {a : Act} {t : TypeId} {x y z1 z2 : Operand} {u v1 v2 v3 : Value} (r : Value) (hg : o.guard = none) (ho : o.op = .slice t x (some y) (some z1) (some z2)) (hx : a.eval x = u) (hy : a.eval y = v1) (hz : a.eval z1 = v2) (hz2 : a.eval z2 = v3) (hr : ∀ w2, (Instr.sliceAt t u (some v1) (some v2) (some v3)).run P w2 = .ok r w2)
    (h : wpList P ops Q rest (a.put o.dst r) w) : wpList P ops Q (o :: rest) a w := by
  refine Agg.run hg r w ?_ h
  simp only [execOp, ho, Option.map_some, hx, hy, hz, hz2, hr, Sem.run_bind, Result.andThen_ok, Sem.run_pure]
end Lg
namespace Go.Proofs.Ytlddjcilbpcciaa
open Go.ChangeShapes Go.WideShapes Go.ChangeAt Go.RowKit Agg Pg Dv Lg
attribute [local go_sem] Oper.semAt_some

theorem bytes_part {w : World} {b o cap : Nat} {l : List UInt8} (h : Bytes w (.slice (some ⟨b, o, none⟩) l.length cap) l) (f m : Nat) (hf : f + m ≤ l.length) : Bytes w (.slice (some ⟨b, o + f, none⟩) m m) ((l.drop f).take m) := by
  have hl : ((l.drop f).take m).length = m := by rw [List.length_take, List.length_drop]; omega
  obtain ⟨h1, h2⟩ := h
  obtain ⟨_, _, e, hc1, hcm⟩ := SlR.shape (show SlR w _ 1 l.length (bv l) from ⟨h1, h2⟩)
  cases e
  rcases h2 with ⟨h3, _⟩ | ⟨p, cap', hv, h3, h4, h5⟩
  · cases h3
  · simp only [Value.slice.injEq, Option.some.injEq, true_and] at hv
    obtain ⟨rfl, rfl⟩ := hv
    refine ⟨by rw [bv_length, hl]; omega, .inr ⟨_, m, by rw [hl], by omega, by omega, fun j u hj => ?_⟩⟩
    have hj2 := (List.getElem?_eq_some_iff.1 hj).1
    rw [bv_length, hl] at hj2
    have := h5 (f + j) u (by
      unfold bv at hj ⊢
      rw [List.getElem?_map, List.getElem?_take, if_pos hj2, List.getElem?_drop] at hj
      rw [List.getElem?_map]; exact hj)
    rw [add_none] at this ⊢
    rw [← this]
    congr 2; omega
theorem build_page' (k : Int) (x : Option Addr) (n m : Nat) (w : World) : (Instr.build 86 #[(0, .int .i64 k), (1, .slice x n m)]).run Try.prog w = .ok (.agg #[.int .i64 k, .slice x n m]) w := by cases x <;> simp [go_sem]
theorem lit_blk (b : List Sec) (hb : BOk b) (w : World) : (Instr.buildSlice 25 1 #[(0, .agg (blkC b).toArray)]).run Try.prog w = .ok (.slice (some ⟨w.heap.size, 0, none⟩) 1 1) (w.alloc (.cells (blkC b).toArray 54)) := by
  have h := run_buildRows tiBl [blkC b] (by simpa using bok_cells hb) (by simp) (by simp) w
  simpa using h
set_option maxHeartbeats 4000000 in
set_option maxRecDepth 100000 in
theorem blocks_any (n : Nat) (B : List UInt8) (vb : Value) (m : Nat) (w : World) (hB : Bytes w vb B) (hbl : B.length ≤ 10000) (hm : (m : Int) = needL B.length) (hn : n + m < 18446744073709551616) :
    Calls Try.prog 38 #[.int .u64 (n : Int), vb] w fun e w' => ∃ u, e = .returned u ∧ w'.ownsRow w.heap.size 54 132 u m ((blkG n B m m).flatMap blkC) ∧ Below w.heap.size w w' := by
  obtain ⟨bx, bc, rfl, _, _⟩ := SlR.shape hB
  have HB0 := Lib.hid hB
  obtain ⟨hm1, hm2⟩ := need_step hm
  have hm4 : m ≤ 200 := by
    by_cases h : m = 0
    · omega
    · have := hm2 (m - 1) (by omega); omega
  have HM2 := Lib.hid hm2
  have HM := Lib.hid hm
  clear hB hm hm2
  have HB := Lib.hid (Below.refl w.heap.size w)
  go_enter Try.func38, Try.ntmps38
  go_wp2_with fail
  refine (need_any (B.length : Int) (by omega) (by omega) w).mono ?_
  rintro e w1 ⟨rfl, hb⟩
  replace HB := Lib.hid (HB.out.trans (hb.mono HB.out.size))
  clear hb
  rw [← HM.out]
  go_wp2_with fail
  obtain ⟨wZ, hwZ⟩ : ∃ x, x = w1 := ⟨_, rfl⟩
  subst hwZ
  have HBZ := HB
  clear HB
  go_loopw [17, 5] (fun ix s5 wr => ∃ k : Nat, k ≤ m ∧ ix = .int .i64 k ∧ wr.ownsRow w.heap.size 54 132 s5 k ((blkG n B m k).flatMap blkC) ∧ Below w.heap.size w wr) (fun ix _ _ => m - (intOf ix).toNat)
  case atStart => exact ⟨0, by omega, rfl, World.ownsRow_nil _ _ _ _, HBZ.out⟩
  case round =>
    obtain ⟨k, hk, rfl, ho, hb⟩ := hrel
    have HB := Lib.hid hb
    have HO := Lib.hid ho
    have HBY := Lib.hid (SlR.keep HB0.out hb)
    obtain ⟨xo, co, rfl, _, _⟩ := (ownSl ho).shape
    clear ho hb
    obtain ⟨wA, hwA⟩ : ∃ x, x = wr := ⟨_, rfl⟩
    subst hwA
    by_cases hlt : k < m
    · have hpos : 118 * k < B.length := HM2.out k hlt
      obtain ⟨t, ht⟩ : ∃ t, t = min (118 * k + 118) B.length := ⟨_, rfl⟩
      have htm : min ((118 * k + 118 : Nat) : Int) (B.length : Int) = (t : Int) := by omega
      go_upto_region 8 with (refine Agg.min2 _ _ _ (t : Int) rfl rfl rfl rfl (by omega) ?_; simp only [Act.put, List.setIfInBounds_toArray, List.set_cons_succ, List.set_cons_zero])
      obtain ⟨f, hf⟩ : ∃ f : Nat, f = 118 * k := ⟨_, rfl⟩
      rw [show (k : Int) * 118 = (f : Int) by omega, show (f : Int) + 118 = ((f + 118 : Nat) : Int) by omega]
      obtain ⟨f2, hf2⟩ : ∃ f2 : Nat, f + 118 = f2 := ⟨_, rfl⟩
      rw [hf2]
      have hft : f ≤ t ∧ t ≤ B.length ∧ f < t := by omega
      obtain ⟨gb, ob, cb, hve, hc1, hc2, _, _⟩ := SlR.pos HBY.out (by decide) (by omega)
      simp only [Value.slice.injEq, true_and] at hve
      obtain ⟨rfl, rfl⟩ := hve
      obtain ⟨pl, hpl⟩ : ∃ pl, t - f = pl := ⟨_, rfl⟩
      have hd := bytes_part HBY.out f pl (by omega)
      have hde : (B.drop f).take pl = (B.drop (118 * k)).take 118 := by
        rw [← hf, List.take_eq_take_min (i := 118), List.length_drop]; congr 1; omega
      rw [hde] at hd
      obtain ⟨d, hdd⟩ : ∃ d, (B.drop (118 * k)).take 118 = d := ⟨_, rfl⟩
      rw [hdd] at hd
      have hdl : d.length = pl := by rw [← hdd, List.length_take, List.length_drop]; omega
      have hpd : partL B m k = UInt8.ofNat k :: UInt8.ofNat m :: d := by rw [← hdd]; rfl
      have hbc : B.length ≤ bc := by omega
      have hsl3 := fun W : World => run_slice_3 ti25 gb ob B.length bc f t t (by omega) (Nat.le_refl _) (by omega) (by omega) W
      rw [hpl, Nat.mul_one] at hsl3
      have hbg := blkG_succ n B m k
      rw [hpd] at hbg
      obtain ⟨bl, hblk⟩ : ∃ bl, layL (UInt8.ofNat k :: UInt8.ofNat m :: d) (n + k) = bl := ⟨_, rfl⟩
      rw [hblk] at hbg
      obtain ⟨er, her⟩ : ∃ er, (layR 2 (UInt8.ofNat k :: UInt8.ofNat m :: d) (n + k)).2 = er := ⟨_, rfl⟩
      have hly := fun W (v : Value) hv => layP_any 2 (UInt8.ofNat k :: UInt8.ofNat m :: d) (n + k) v W hv bl er (by rw [← hblk, ← her]; rfl)
      have hbok : BOk bl := by
        rw [← hblk]
        unfold layL layR
        split
        · rename_i h
          exact layB_bok 2 _ _ h.1.2.2 h.2
        · exact zeroB_bok
      obtain ⟨nk, hnk⟩ : ∃ nk, n + k = nk := ⟨_, rfl⟩
      have hadd : (n : Int) + (k : Int) = (nk : Int) := by omega
      rw [hnk] at hly
      have HSL := Lib.hid hsl3
      have HBG := Lib.hid hbg
      have HLY := Lib.hid hly
      have HBOK := Lib.hid hbok
      have HADD := Lib.hid hadd
      have HDL := Lib.hid hdl
      have hpl2 : pl ≤ 118 := by omega
      have hbA : Below wA.heap.size wA (wA.alloc (.cells #[.int .u8 (k : Int), .int .u8 (m : Int)] 5)) := (Below.refl _ _).alloc (Nat.le_refl _) _
      have HLI : Hid ((wA.alloc (.cells #[.int .u8 (k : Int), .int .u8 (m : Int)] 5)).ownsRow wA.heap.size 5 1 (.slice (some ⟨wA.heap.size, 0, none⟩) 2 2) 2 (bv [UInt8.ofNat k, UInt8.ofNat m])) := Lib.hid (blk_own (r := []) (by
        rw [List.append_nil]
        have e : bv [UInt8.ofNat k, UInt8.ofNat m] = [.int .u8 (k : Int), .int .u8 (m : Int)] := by
          simp only [bv, List.map_cons, List.map_nil, UInt8.toNat_ofNat']
          rw [Nat.mod_eq_of_lt (by omega), Nat.mod_eq_of_lt (by omega)]
        rw [e]
        exact Blk.new wA 5 #[.int .u8 (k : Int), .int .u8 (m : Int)]) (Nat.le_refl _) (Nat.le_refl _) (by unfold maxLen; decide) (by simp [bv]) (by simp [bv]))
      have HDA := Lib.hid (SlR.keep hd hbA)
      clear hf hf2 ht htm hft hc1 hc2 hpl hd hde hdd hdl hpd hsl3 hbg hblk her hly hbok hnk hadd hpos
      have hli := HLI.out
      have hda := HDA.out
      rw [HDL.out] at hda
      go_upto_region 9 with (first
        | (refine Agg.append2 ti25 _ _ rfl rfl wA.heap.size rfl hli rfl hda (bv_one d) (by unfold maxLen; omega) (by omega) (by simp only [World.size_alloc]; omega) ?_; intro v2 w2 ho2 hg2 _; simp only [Act.put, List.setIfInBounds_toArray, List.set_cons_succ, List.set_cons_zero])
        | (refine gSlice3 (.slice (some ⟨gb, ob + f, none⟩) pl pl) rfl rfl rfl rfl rfl rfl HSL.out ?_; simp only [Act.put, List.setIfInBounds_toArray, List.set_cons_succ, List.set_cons_zero]))
      have hb2 : Below wA.heap.size wA w2 := hbA.trans (grown_below hg2 (by simp) (own_block hli))
      obtain ⟨x2, c2, rfl, _, _⟩ := (ownSl ho2).shape
      have hdk : Bytes w2 (.slice x2 (UInt8.ofNat k :: UInt8.ofNat m :: d).length c2) (UInt8.ofNat k :: UInt8.ofNat m :: d) := by
        have h := ownSl ho2
        rw [← bv_append] at h
        show SlR _ _ _ _ _
        have e : (UInt8.ofNat k :: UInt8.ofNat m :: d).length = 2 + pl := by rw [List.length_cons, List.length_cons, HDL.out]; omega
        rw [e]; exact h
      have hdl2 : (UInt8.ofNat k :: UInt8.ofNat m :: d).length = 2 + pl := by rw [List.length_cons, List.length_cons, HDL.out]; omega
      rw [hdl2] at hdk
      have HDK := Lib.hid hdk
      have hb := hb2
      replace HB := Lib.hid (HB.out.trans (hb.mono HB.out.size))
      replace HO := Lib.hid (HO.out.keep hb)
      replace HBY := Lib.hid (HBY.out.keep hb)
      clear hb
      clear hli hda ho2 hg2 hdk hdl2 HSL HLI HDA HDL hbA HBY
      go_wp2_with fail
      rw [HADD.out]
      refine (HLY.out w2 _ HDK.out).mono ?_
      rintro e w21 ⟨rfl, hb⟩
      replace HB := Lib.hid (HB.out.trans (hb.mono HB.out.size))
      replace HO := Lib.hid (HO.out.keep hb)
      replace HDK := Lib.hid (HDK.out.keep hb)
      clear hb
      clear HLY HADD HDK HM2
      have h132 := bok_cells HBOK.out
      have hone := blkC_one bl
      go_upto_region 10 with (first
        | (refine Agg.allocRow 54 (blkC zeroB).toArray rfl rfl (by kernel_rfl) ?_; simp only [Act.put, List.setIfInBounds_toArray, List.set_cons_succ, List.set_cons_zero])
        | (refine Agg.gStoreNew 132 (blkC bl) rfl rfl rfl rfl rfl rfl (by decide +kernel) h132 zero132 hone ?_; simp only [Act.put]))
      refine Agg.wp_at fun w22 hw22 => ?_
      have hb : Below w21.heap.size w21 w22 := by rw [hw22.out]; repeat (first | exact Below.refl _ _ | refine Agg.bel_drew ?_ | refine Agg.bel_alloc ?_ _)
      replace HB := Lib.hid (HB.out.trans (hb.mono HB.out.size))
      replace HO := Lib.hid (HO.out.keep hb)
      clear hb
      have HX : Hid (Blk w22 w21.heap.size 54 (blkC bl)) := by show Blk _ _ _ _; rw [hw22.out]; exact Blk.new w21 54 (blkC bl).toArray
      clear hw22
      generalize w21.heap.size = g11 at *
      have hfl : Hid (((blkG n B m k).flatMap blkC ++ blkC bl) = (blkG n B m (k + 1)).flatMap blkC) := Lib.hid (by rw [HBG.out, List.flatMap_append]; simp)
      have hbX : Below w22.heap.size w22 (w22.alloc (.cells (blkC bl).toArray 54)) := (Below.refl _ _).alloc (Nat.le_refl _) _
      have hoX := Lib.hid (HO.out.keep hbX)
      have hsX : Hid (SlR (w22.alloc (.cells (blkC bl).toArray 54)) (.slice (some ⟨w22.heap.size, 0, none⟩) 1 1) 132 1 (blkC bl)) := Lib.hid (NewSl.sl (sz := 132) (b0 := 0) (e := 54) (cs := blkC bl) ⟨_, rfl, Nat.zero_le _, Blk.new w22 54 (blkC bl).toArray⟩ (by rw [h132]) (by unfold maxLen; decide))
      have hlw : w.heap.size ≤ (w22.alloc (.cells (blkC bl).toArray 54)).heap.size := Nat.le_trans HB.out.size hbX.size
      have HLIT := Lib.hid (fun W => lit_blk bl HBOK.out W)
      have hx := HX.out
      have hkk : k ≤ 200 := by omega
      go_wp2_with (first
        | (refine Agg.gLoadB 132 hx h132 rfl rfl rfl (by decide +kernel) ?_; simp only [Act.put, List.setIfInBounds_toArray, List.set_cons_succ, List.set_cons_zero])
        | (refine Agg.gLit1 (blkC bl) rfl rfl rfl (fun W => HLIT.out W) ?_; simp only [Act.put, List.setIfInBounds_toArray, List.set_cons_succ, List.set_cons_zero])
        | (refine Agg.append2 tiBl (.tmp 48) (.tmp 50) rfl rfl w.heap.size (v := .slice xo k co) rfl hoX.out rfl hsX.out hone (by unfold maxLen; omega) (by omega) hlw (fun v2 w4 hC4 hg4 hwh => ?_); simp only [Act.put, List.setIfInBounds_toArray, List.set_cons_succ, List.set_cons_zero]))
      rw [hfl.out] at hC4
      have hbW := HB.out.trans (hbX.mono HB.out.size)
      have hb4 := hbW.trans (grown_below hg4 hlw (own_block hoX.out))
      exact ⟨⟨k + 1, by omega, by go_num, hC4, hb4⟩, by simp [intOf]; omega⟩
    · obtain rfl : k = m := by omega
      go_wp2_with fail
      go_ret
      exact ⟨_, rfl, HO.out, HB.out⟩
end Go.Proofs.Ytlddjcilbpcciaa
end
