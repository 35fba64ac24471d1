/-
  THE LOG, in plain Lean: groups that are put one behind the other, and what is replayed then.
-/
import Derived.Test.YtlddjcilbpcciaaLgQ
section
namespace Go.Proofs.Ytlddjcilbpcciaa
open Go.ChangeShapes Go.WideShapes Go.ChangeAt Go.RowKit Agg Pg Dv Lg
/-- a device of the least size, with its power, on which all has settled -/
structure Fresh (d : Dev) : Prop where
  pow : PowD d
  good : DGood d
  cache : d.cache = []
  len : d.pages.length = 24
/-- no sector has a stamp above -/
def SecLe (X : Nat) (P : List (List Sec)) : Prop := ∀ b ∈ P, ∀ s ∈ b, s.1 ≤ X
theorem grB_le {P : List (List Sec)} {X : Nat} : grB P ≤ X ↔ SecLe X P := by
  constructor
  · intro h b hb s hs
    exact Nat.le_trans (le_grS P.flatten s (List.mem_flatten.2 ⟨b, hb, hs⟩)) h
  · intro h
    have := grS_lt P.flatten (X + 1) (by omega) (fun s hs => by
      obtain ⟨b, hb, hs2⟩ := List.mem_flatten.1 hs
      have := h b hb s hs2
      omega)
    show grS P.flatten ≤ X
    omega
theorem SecLe.mono {X Y : Nat} {P : List (List Sec)} (h : SecLe X P) (hXY : X ≤ Y) : SecLe Y P := fun b hb s hs => Nat.le_trans (h b hb s hs) hXY
theorem layL_sec {d : List UInt8} {n : Nat} {s : Sec} (h : s ∈ layL d n) : s.1 ≤ n := by
  unfold layL layR at h
  split at h
  · rename_i hc
    have hk := layB_ok 2 d n hc.1.2.2
    obtain ⟨_, _, _, _, _, h7⟩ := form_of_lay _ hk.1 hk.2 2 d n hc.1 rfl
    rw [h7 s h]; exact Nat.le_refl _
  · unfold zeroB at h
    rw [List.eq_of_mem_replicate h]; exact Nat.zero_le _
theorem mixB_mem {old new : List Sec} {m : Int} {s : Sec} (ho : old.length = 4) (hn : new.length = 4) (h : s ∈ mixB old new m) : s ∈ old ∨ s ∈ new := by
  obtain ⟨k, hk, rfl⟩ := (mem_getD (mixB_four old new m) s).1 h
  rw [mixB_getD _ _ _ _ hk]
  split
  · exact .inr ((mem_getD hn _).2 ⟨k, hk, rfl⟩)
  · exact .inl ((mem_getD ho _).2 ⟨k, hk, rfl⟩)
theorem settle_sec {X : Nat} {P : List (List Sec)} {x : Int × List Sec} {m : Int} (hP : SecLe X P) (hx : ∀ s ∈ x.2, s.1 ≤ X) (h4 : ∀ b ∈ P, b.length = 4) (hx4 : x.2.length = 4) : SecLe X (settle P x m) ∧ ∀ b ∈ settle P x m, b.length = 4 := by
  constructor
  · intro b hb s hs
    unfold settle at hb
    rcases List.mem_or_eq_of_mem_set hb with hb | rfl
    · exact hP b hb s hs
    · have hz : (P.getD x.1.toNat zeroB).length = 4 := by
        rw [List.getD_eq_getElem?_getD]
        cases hc : P[x.1.toNat]? with
        | none => rfl
        | some b => exact h4 b (List.mem_of_getElem? hc)
      rcases mixB_mem hz hx4 hs with h | h
      · rw [List.getD_eq_getElem?_getD] at h
        cases hc : P[x.1.toNat]? with
        | none =>
          rw [hc] at h
          unfold zeroB at h
          rw [List.eq_of_mem_replicate h]; exact Nat.zero_le _
        | some b => rw [hc] at h; exact hP b (List.mem_of_getElem? hc) s h
      · exact hx s h
  · intro b hb
    unfold settle at hb
    rcases List.mem_or_eq_of_mem_set hb with hb | rfl
    · exact h4 b hb
    · exact mixB_four _ _ _
theorem settleAll_sec {X : Nat} : ∀ (l : List (Int × List Sec)) {P : List (List Sec)}, SecLe X P → (∀ b ∈ P, b.length = 4) → (∀ x ∈ l, ∀ s ∈ x.2, s.1 ≤ X) → (∀ x ∈ l, x.2.length = 4) → SecLe X (settleAll P l)
  | [], _, h, _, _, _ => h
  | x :: l, P, h, h4, hl, hl4 => by
    have h1 := settle_sec (m := 15) h (hl x (by simp)) h4 (hl4 x (by simp))
    exact settleAll_sec l h1.1 h1.2 (fun y hy => hl y (by simp [hy])) (fun y hy => hl4 y (by simp [hy]))
theorem settleBy_sec' {X : Nat} : ∀ (l : List (Int × List Sec)) (ms : List Int) {P : List (List Sec)}, SecLe X P → (∀ b ∈ P, b.length = 4) → (∀ x ∈ l, ∀ s ∈ x.2, s.1 ≤ X) → (∀ x ∈ l, x.2.length = 4) → SecLe X (settleBy P l ms)
  | [], ms, _, h, _, _, _ => by cases ms <;> exact h
  | x :: l, [], _, h, _, _, _ => h
  | x :: l, m :: ms, P, h, h4, hl, hl4 => by
    have h1 := settle_sec (m := m) h (hl x (by simp)) h4 (hl4 x (by simp))
    exact settleBy_sec' l ms h1.1 h1.2 (fun y hy => hl y (by simp [hy])) (fun y hy => hl4 y (by simp [hy]))
theorem at_fresh {d : Dev} (h : d.cache = []) (q : Nat) : atL d q = d.pages.getD (2 + q) zeroB := by
  unfold atL
  rw [h, saysP_zero]
  congr 1
theorem getD_sec {P : List (List Sec)} {X : Nat} (h : SecLe X P) (k : Nat) : ∀ s ∈ P.getD k zeroB, s.1 ≤ X := by
  intro s hs
  rw [List.getD_eq_getElem?_getD] at hs
  cases hc : P[k]? with
  | none =>
    rw [hc] at hs
    unfold zeroB at hs
    rw [List.eq_of_mem_replicate hs]; exact Nat.zero_le _
  | some b => rw [hc] at hs; exact h b (List.mem_of_getElem? hc) s hs
theorem pSt_sec {b : List Sec} (h4 : b.length = 4) {X : Nat} (h : ∀ s ∈ b, s.1 ≤ X) : pSt b ≤ X := by
  unfold pSt readR
  split
  · split
    · split
      · show st0 b ≤ X
        match b, h4 with
        | [a, b, c, d], _ => exact h a (by simp)
      · exact Nat.zero_le _
    · exact Nat.zero_le _
  · exact Nat.zero_le _
/-- the device then -/
def putD (d : Dev) (a n : Nat) (B : List UInt8) : Dev := flD (addD d (wrsG a n B (mG B) (mG B)))
theorem need_pos {B : List UInt8} (h : B ≠ []) : 1 ≤ mG B := by
  have : B.length ≠ 0 := fun e => h (List.eq_nil_of_length_eq_zero e)
  unfold mG needL; split <;> omega
theorem flD_good {d : Dev} (hp : PowD d) (h : DGood d) : DGood (flD d) := by
  have h1 := goesP_good h (flushP_good h)
  rw [(flush_pow hp).1] at h1
  exact h1
theorem addD_good {d : Dev} (h : DGood d) {l : List (Int × List Sec)} (h1 : ∀ x ∈ l, BOk x.2) (h2 : ∀ x ∈ l, thereB d.pages.length x.1 = true) : DGood (addD d l) := by
  refine ⟨h.pages, fun x hx => ?_, fun x hx => ?_, h.np⟩
  · rcases List.mem_append.1 hx with hx | hx
    · exact h.cache x hx
    · exact h1 x hx
  · rcases List.mem_append.1 hx with hx | hx
    · exact h.nums x hx
    · have := h2 x hx
      have hnp := h.np
      unfold thereB at this
      simp only [Bool.and_eq_true, decide_eq_true_eq] at this
      exact wf_small this.1 (by omega)
theorem put_pow' {d : Dev} (h : PowD d) {a n : Nat} {B : List UInt8} (hB : B ≠ []) (ha : a + mG B ≤ 16) (hn : 1 ≤ n) (hn2 : n + mG B ≤ 4611686018427387905) : putG d a n B = (0, putD d a n B) ∧ PowD (putD d a n B) := by
  have hnp := (right_six h.1).1
  have hBl : B.length ≠ 0 := fun e => hB (List.eq_nil_of_length_eq_zero e)
  have hm := mG_eq B
  have hm1 := need_pos hB
  have ha0 : askL d = 0 := by unfold askL; rw [h.1, h.2.1]; rfl
  have hw : whyG (a : Int) n B = 0 := by
    unfold whyG
    rw [if_neg (by omega), if_neg (by omega), if_neg (by omega)]
  obtain ⟨h1, h2⟩ := puts_pow h (wrsG_there a n B (mG B) (mG B) d.pages.length (by omega))
  obtain ⟨h3, h4⟩ := flush_pow h2
  refine ⟨?_, h4⟩
  unfold putG
  rw [ha0, hw, if_neg (by decide), if_neg (by decide), if_neg (by decide), Int.toNat_natCast, h1, if_neg (by simp)]
  exact h3
theorem put_fresh {d : Dev} (h : Fresh d) {a n : Nat} {B : List UInt8} (hB : B ≠ []) (ha : a + mG B ≤ 16) (hn : 1 ≤ n) (hn2 : n + mG B ≤ 4611686018427387905) : putG d a n B = (0, putD d a n B) ∧ Fresh (putD d a n B) := by
  obtain ⟨h1, h2⟩ := put_pow' h.pow hB ha hn hn2
  have hth := wrsG_there a n B (mG B) (mG B) d.pages.length (by rw [h.len]; omega)
  obtain ⟨h3, h4⟩ := puts_pow h.pow hth
  refine ⟨h1, h2, flD_good h4 (addD_good h.good (wrsG_bok a n B _ _) hth), rfl, ?_⟩
  show (settleAll _ _).length = 24
  rw [settleAll_len]; exact h.len
theorem key_ne {a n : Nat} {B : List UInt8} {m k : Nat} {x : Int × List Sec} {q : Nat} (h : x ∈ wrsG a n B m k) (hq : q < a ∨ a + k ≤ q) : x.1 ≠ 2 + (q : Int) := by
  obtain ⟨i, hi, rfl⟩ := List.mem_map.1 h
  have := List.mem_range.1 hi
  simp only
  omega
theorem wrsG_split (a n : Nat) (B : List UInt8) (m i : Nat) (h : i < m) : ∃ l1 l2, wrsG a n B m m = l1 ++ ((2 : Int) + (a : Int) + (i : Int), layL (partL B m i) (n + i)) :: l2 ∧ l1.length = i ∧ (∀ x ∈ l1, x.1 ≠ 2 + (a : Int) + (i : Int)) ∧ ∀ x ∈ l2, x.1 ≠ 2 + (a : Int) + (i : Int) := by
  have h1 := wrsG_drop a n B m i h
  refine ⟨(wrsG a n B m m).take i, (wrsG a n B m m).drop (i + 1), by rw [← h1, List.take_append_drop], by rw [List.length_take, wrsG_length]; omega, fun x hx => ?_, fun x hx => ?_⟩
  · obtain ⟨j, hj, rfl⟩ := List.getElem_of_mem hx
    rw [List.getElem_take, wrsG_get]
    rw [List.length_take] at hj
    simp only; omega
  · obtain ⟨j, hj, rfl⟩ := List.getElem_of_mem hx
    rw [List.getElem_drop, wrsG_get]
    simp only; omega
theorem at_put {d : Dev} (h : Fresh d) {a n : Nat} {B : List UInt8} (ha : a + mG B ≤ 16) (q : Nat) (hq : q < 16) : atL (putD d a n B) q = if a ≤ q ∧ q < a + mG B then layL (partL B (mG B) (q - a)) (n + (q - a)) else atL d q := by
  have hth := wrsG_there a n B (mG B) (mG B) d.pages.length (by rw [h.len]; omega)
  obtain ⟨h3, h4⟩ := puts_pow h.pow hth
  have hgd := addD_good h.good (wrsG_bok a n B _ _) hth
  have htq : thereB (addD d (wrsG a n B (mG B) (mG B))).pages.length (2 + (q : Int)) = true := by
    show thereB d.pages.length _ = true
    rw [h.len]; unfold thereB; simp only [Bool.and_eq_true, decide_eq_true_eq]; omega
  have hsf := says_flush h4.1 hgd htq
  unfold atL
  show saysP (flD (addD d _)).pages (flD (addD d _)).cache _ = _
  rw [hsf]
  show saysP d.pages (d.cache ++ wrsG a n B (mG B) (mG B)) _ = _
  split
  · rename_i hc
    obtain ⟨l1, l2, e, _, _, h6⟩ := wrsG_split a n B (mG B) (q - a) (by omega)
    have ek : (2 : Int) + (a : Int) + ((q - a : Nat) : Int) = 2 + (q : Int) := by omega
    rw [ek] at e h6
    rw [e]
    exact says_at h6
  · rename_i hc
    exact says_no (fun x hx => key_ne hx (by omega))
theorem put_lies {d : Dev} (h : Fresh d) {a n : Nat} {B : List UInt8} (hB : B ≠ []) (ha : a + mG B ≤ 16) (hn : 1 ≤ n) (hn2 : n + mG B ≤ 4611686018427387905) : Lies (atL (putD d a n B)) a B (mG B) n := by
  refine ⟨need_pos hB, (mG_eq B).symm, fun i hi => ?_⟩
  have hst : stampP (n + i) := ⟨by omega, by omega⟩
  refine ⟨?_, hst⟩
  rw [at_put h ha (a + i) (by omega), if_pos ⟨by omega, by omega⟩, Nat.add_sub_cancel_left, layL_ok (partL_len _ _ _) hst]
theorem put_sec {d : Dev} (h : Fresh d) {a n X : Nat} {B : List UInt8} (hX : SecLe X d.pages) (hn : n + mG B ≤ X + 1) : SecLe X (putD d a n B).pages := by
  show SecLe X (settleAll d.pages (d.cache ++ wrsG a n B (mG B) (mG B)))
  rw [h.cache, List.nil_append]
  refine settleAll_sec _ hX (fun b hb => (h.good.pages b hb).1) (fun x hx s hs => ?_) (fun x hx => (wrsG_bok a n B _ _ x hx).1)
  obtain ⟨i, hi, rfl⟩ := List.mem_map.1 hx
  have h1 := layL_sec hs
  have := List.mem_range.1 hi
  omega
/-- groups are put one behind the other, as long as there is room -/
def filP : List (List UInt8) → Dev → Nat → Nat → Nat → Dev × List (List UInt8) × Nat × Nat
  | [], d, p, last, _ => (d, [], p, last)
  | g :: gs, d, p, last, st =>
    if mG (g.take 600) = 0 ∨ 16 - p < mG (g.take 600) then filP gs d p last st
    else ((filP gs (putD d p st (g.take 600)) (p + mG (g.take 600)) (st + mG (g.take 600) - 1) (st + mG (g.take 600))).1,
      g.take 600 :: (filP gs (putD d p st (g.take 600)) (p + mG (g.take 600)) (st + mG (g.take 600) - 1) (st + mG (g.take 600))).2.1,
      (filP gs (putD d p st (g.take 600)) (p + mG (g.take 600)) (st + mG (g.take 600) - 1) (st + mG (g.take 600))).2.2)
structure FilR (d : Dev) (p last st X : Nat) (R : Dev × List (List UInt8) × Nat × Nat) : Prop where
  fresh : Fresh R.1
  le : p ≤ R.2.2.1 ∧ R.2.2.1 ≤ 16
  chain : ChainL (atL R.1) p last R.2.1 R.2.2.1 R.2.2.2
  same : ∀ q, q < 16 → (q < p ∨ R.2.2.1 ≤ q) → atL R.1 q = atL d q
  lst : (R.2.2.1 = p ∧ R.2.2.2 = last ∧ R.1 = d ∧ R.2.1 = []) ∨ (st ≤ R.2.2.2 ∧ p < R.2.2.1 ∧ R.2.1 ≠ [])
  bound : R.2.2.2 ≤ max last (st + (R.2.2.1 - p) - 1)
  sec : SecLe (max X R.2.2.2) R.1.pages
  len : R.2.1.length + p ≤ R.2.2.1
theorem mG_nil {B : List UInt8} (h : mG B ≠ 0) : B ≠ [] := fun e => h (by rw [e]; rfl)
theorem fil_facts (gs : List (List UInt8)) : ∀ {d : Dev} {p last st X : Nat}, Fresh d → p ≤ 16 → last < st → st + (16 - p) ≤ 4611686018427387904 → SecLe X d.pages → FilR d p last st X (filP gs d p last st) := by
  induction gs with
  | nil =>
    intro d p last st X h h1 h2 h3 h4
    exact ⟨h, ⟨Nat.le_refl _, h1⟩, ⟨rfl, rfl⟩, fun _ _ _ => rfl, .inl ⟨rfl, rfl, rfl, rfl⟩, by show last ≤ _; omega, h4.mono (by omega), by show 0 + p ≤ p; omega⟩
  | cons g gs ih =>
    intro d p last st X h h1 h2 h3 h4
    rw [filP]
    generalize g.take 600 = B
    by_cases hc : mG B = 0 ∨ 16 - p < mG B
    · rw [if_pos hc]; exact ih h h1 h2 h3 h4
    · rw [if_neg hc]
      have hB := mG_nil (B := B) (by omega)
      have hst1 : 1 ≤ st := by omega
      obtain ⟨_, hf⟩ := put_fresh h (a := p) (n := st) hB (by omega) hst1 (by omega)
      have hl := put_lies h (a := p) (n := st) hB (by omega) hst1 (by omega)
      have hat := fun q hq => at_put h (a := p) (n := st) (B := B) (by omega) q hq
      have hs := put_sec h (a := p) (n := st) (B := B) (X := max X (st + mG B - 1)) (h4.mono (by omega)) (by omega)
      obtain ⟨m, hm⟩ : ∃ m, mG B = m := ⟨_, rfl⟩
      rw [hm] at hc hl hat hs ⊢
      have r := ih (p := p + m) (last := st + m - 1) (st := st + m) hf (by omega) (by omega) (by omega) hs
      generalize filP gs (putD d p st B) (p + m) (st + m - 1) (st + m) = R at r ⊢
      obtain ⟨r1, r2, r3, r4, r5, r6, r7, r8⟩ := r
      refine ⟨r1, ⟨by dsimp only; omega, r2.2⟩, ⟨m, st, ?_, h2, by omega, r3⟩, fun q hq hq2 => ?_, .inr ⟨?_, by dsimp only; omega, by simp⟩, by dsimp only at r6 ⊢; omega, ?_, by simp only [List.length_cons]; omega⟩
      · refine ⟨hl.pos, hl.need, fun i hi => ?_⟩
        have he := r4 (p + i) (by omega) (.inl (by omega))
        show atL R.1 (p + i) = _ ∧ _
        rw [he]
        exact hl.blk i hi
      · show atL R.1 q = _
        dsimp only at hq2
        rw [r4 q hq (by omega), hat q hq, if_neg (by omega)]
      · rcases r5 with ⟨_, e, _⟩ | ⟨e, _⟩
        · dsimp only; omega
        · dsimp only; omega
      · refine r7.mono ?_
        rcases r5 with ⟨_, e, _⟩ | ⟨e, _⟩
        · dsimp only; omega
        · dsimp only; omega
/-- behind them nothing is replayed -/
theorem fil_stop {d : Dev} {p last st X : Nat} {R : Dev × List (List UInt8) × Nat × Nat} (hF : Fresh d) (h : FilR d p last st X R) (hs : ∀ q, q < 16 → p ≤ q → pSt (atL d q) < st) (hn : nextG (atL d) p last = 0) : nextG (atL R.1) R.2.2.1 R.2.2.2 = 0 := by
  rcases h.lst with ⟨e1, e2, e3, _⟩ | ⟨e1, e2, _⟩
  · rw [e1, e2, e3]; exact hn
  · by_cases h16 : R.2.2.1 = 16
    · unfold nextG; rw [h16]; rfl
    · have := h.le.2
      refine next_none ?_
      rw [h.same _ (by omega) (.inr (Nat.le_refl _))]
      have := hs R.2.2.1 (by omega) (by omega)
      omega
theorem newD_fresh : Fresh (newD 24) := ⟨⟨right_of (by simp [newD]) (by simp [newD]) (by simp [newD]) (by simp [newD]) (by simp [newD]) (by simp [newD]), rfl, rfl⟩, newD_good (by decide), rfl, by simp [newD]⟩
theorem newD_sec : SecLe 0 (newD 24).pages := by
  intro b hb s hs
  rw [List.eq_of_mem_replicate hb] at hs
  unfold zeroB at hs
  rw [List.eq_of_mem_replicate hs]; exact Nat.le_refl _
/-- what wakes asks -/
def wkG : List UInt8 := List.replicate 119 0
def wkD1 : Dev := putD (newD 24) 0 1 wkG
def wkD2 : Dev := putD wkD1 2 3 [7]
theorem wkG_m : mG wkG = 2 := by unfold mG wkG; rw [List.length_replicate]; rfl
theorem wk7_m : mG [7] = 1 := rfl
theorem wkG_ne : wkG ≠ [] := by unfold wkG; simp
theorem wk1 : putG (newD 24) 0 1 wkG = (0, wkD1) ∧ Fresh wkD1 := put_fresh newD_fresh wkG_ne (by rw [wkG_m]; decide) (by decide) (by rw [wkG_m]; decide)
theorem wk2 : putG wkD1 2 3 [7] = (0, wkD2) ∧ Fresh wkD2 := put_fresh wk1.2 (by simp) (by rw [wk7_m]; decide) (by decide) (by rw [wk7_m]; decide)
theorem wk3 : repG (atL wkD2) 0 0 = ([wkG, [7]], 3, 3) := by
  have l1 := put_lies newD_fresh (a := 0) (n := 1) wkG_ne (by rw [wkG_m]; decide) (by decide) (by rw [wkG_m]; decide)
  have l2 := put_lies wk1.2 (a := 2) (n := 3) (B := [7]) (by simp) (by rw [wk7_m]; decide) (by decide) (by rw [wk7_m]; decide)
  have a1 := fun q hq => at_put newD_fresh (a := 0) (n := 1) (B := wkG) (by rw [wkG_m]; decide) q hq
  have a2 := fun q hq => at_put wk1.2 (a := 2) (n := 3) (B := [7]) (by rw [wk7_m]; decide) q hq
  rw [wkG_m] at l1 a1
  rw [wk7_m] at l2 a2
  have hch : ChainL (atL wkD2) 0 0 [wkG, [7]] 3 3 := by
    refine ⟨2, 1, ⟨l1.pos, l1.need, fun i hi => ?_⟩, by decide, by decide, 1, 3, ?_, by decide, by decide, rfl, rfl⟩
    · show atL (putD wkD1 2 3 [7]) (0 + i) = _ ∧ _
      rw [a2 (0 + i) (by omega), if_neg (by omega)]
      exact l1.blk i hi
    · exact l2
  refine rep_chain hch (next_none ?_)
  show pSt (atL (putD wkD1 2 3 [7]) 3) ≤ 3
  rw [a2 3 (by decide), if_neg (by omega)]
  show pSt (atL (putD (newD 24) 0 1 wkG) 3) ≤ 3
  rw [a1 3 (by decide), if_neg (by omega), at_fresh rfl]
  refine Nat.le_trans (pSt_sec (X := 0) ?_ (getD_sec newD_sec 5)) (by decide)
  rfl
end Go.Proofs.Ytlddjcilbpcciaa
end
section
/-
  THE LOG: a device of the least size whose log bears whatever blocks (plain).
-/
namespace Go.Proofs.Ytlddjcilbpcciaa
open Go.ChangeShapes Go.WideShapes Go.ChangeAt Go.RowKit Agg Pg Dv Lg

def blkP : List (List Sec) → Nat → List (List Sec) → List (List Sec)
  | [], _, P => P
  | b :: bs, i, P => if i = 16 ∨ 1152921504606846976 < grB [b] then P else blkP bs (i + 1) (P.set (2 + i) b)
def blankD (old : List (List Sec)) : Dev := ⟨blkP old 0 (newD 24).pages, [], -1, false⟩
theorem set_bok {P : List (List Sec)} (hP : ∀ b ∈ P, BOk b) {k : Nat} {b : List Sec} (hb : BOk b) : ∀ x ∈ P.set k b, BOk x := by
  intro x hx
  rcases List.mem_or_eq_of_mem_set hx with h | rfl
  · exact hP x h
  · exact hb
theorem blk_facts : ∀ (bs : List (List Sec)) (i : Nat) (P : List (List Sec)), (∀ b ∈ bs, BOk b) → P.length = 24 → (∀ b ∈ P, BOk b) → SecLe 1152921504606846976 P → (blkP bs i P).length = 24 ∧ (∀ b ∈ blkP bs i P, BOk b) ∧ SecLe 1152921504606846976 (blkP bs i P)
  | [], _, _, _, h1, h2, h3 => ⟨h1, h2, h3⟩
  | b :: bs, i, P, hb, h1, h2, h3 => by
    rw [blkP]
    split
    · exact ⟨h1, h2, h3⟩
    · rename_i hn
      refine blk_facts bs (i + 1) _ (fun x hx => hb x (by simp [hx])) (by rw [List.length_set]; exact h1) (set_bok h2 (hb b (by simp))) ?_
      have hg : SecLe 1152921504606846976 [b] := grB_le.1 (by omega)
      intro x hx
      rcases List.mem_or_eq_of_mem_set hx with h | rfl
      · exact h3 x h
      · exact hg x (by simp)
theorem blank_facts {old : List (List Sec)} (h : ∀ b ∈ old, BOk b) : Fresh (blankD old) ∧ SecLe 1152921504606846976 (blankD old).pages := by
  obtain ⟨h1, h2, h3⟩ := blk_facts old 0 (newD 24).pages h newD_fresh.len newD_fresh.good.pages (newD_sec.mono (by omega))
  refine ⟨⟨⟨right_of (d := blankD old) ?_ ?_ (by simp [blankD]) (by simp [blankD]) (by simp [blankD]) (by simp [blankD]), rfl, rfl⟩, ⟨h2, fun b hb => absurd hb (by simp [blankD]), fun b hb => absurd hb (by simp [blankD]), ?_⟩, rfl, h1⟩, h3⟩
  · show 24 ≤ (blkP old 0 _).length; omega
  · show (blkP old 0 _).length ≤ 256; omega
  · show (blkP old 0 _).length ≤ 1000; omega
end Go.Proofs.Ytlddjcilbpcciaa
end
