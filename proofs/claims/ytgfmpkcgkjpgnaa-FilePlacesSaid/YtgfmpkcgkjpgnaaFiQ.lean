/-
  DEVICES WITH THEIR POWER, in plain Lean: writes one behind the other, what pages say behind them, behind a flush, behind a crash.
-/
import Derived.Test.YtgfmpkcgkjpgnaaFdDwP
import Derived.Test.YtgfmpkcgkjpgnaaFpPg4
section
namespace Go.Proofs.Ytgfmpkcgkjpgnaa
open Go.ChangeShapes Go.WideShapes Go.ChangeAt Go.RowKit Agg Pg Dv

/-- writes are put one behind the other, up to the first that is not -/
def putsP : Dev → List (Int × List Sec) → Int × Dev
  | d, [] => (0, d)
  | d, x :: l => if (goesP d (putP d x.1 x.2)).1 ≠ 0 then goesP d (putP d x.1 x.2) else putsP (goesP d (putP d x.1 x.2)).2 l
theorem putsP_good {l : List (Int × List Sec)} (hl : ∀ x ∈ l, BOk x.2) : ∀ {d : Dev}, DGood d → DGood (putsP d l).2 := by
  induction l with
  | nil => intro d h; exact h
  | cons x l ih =>
    intro d h
    have h1 := goesP_good h (putP_good h x.1 (hl x (by simp)))
    rw [putsP]
    split
    · exact h1
    · exact ih (fun y hy => hl y (by simp [hy])) h1
/-- a device with its power, no fuse lit -/
def PowD (d : Dev) : Prop := rightD d = true ∧ d.off = false ∧ d.fuse = -1
theorem burn_pow {d : Dev} (h : PowD d) : burnD d = d := by
  obtain ⟨P, l, z, q⟩ := d
  obtain ⟨_, h2, h3⟩ := h
  simp only at h2 h3
  subst h2; subst h3
  rfl
/-- .. with more that waits -/
def addD (d : Dev) (l : List (Int × List Sec)) : Dev := { d with cache := d.cache ++ l }
theorem addD_nil (d : Dev) : addD d [] = d := by unfold addD; rw [List.append_nil]
theorem addD_addD (d : Dev) (l m : List (Int × List Sec)) : addD (addD d l) m = addD d (l ++ m) := by unfold addD; simp only [List.append_assoc]
theorem put_pow {d : Dev} (h : PowD d) {k : Int} (hk : thereB d.pages.length k = true) (b : List Sec) : goesP d (putP d k b) = (0, addD d [(k, b)]) ∧ PowD (addD d [(k, b)]) := by
  have hb := burn_pow h
  obtain ⟨h1, h2, h3⟩ := h
  have e : putP d k b = (0, addD d [(k, b)]) := by rw [putP, if_neg (by rw [hk]; decide), hb, h2, if_neg (by decide)]; rfl
  refine ⟨by rw [e, goesP_on h1 h2 (.inl rfl)], ?_, h2, h3⟩
  refine right_keep h1 rfl rfl rfl (fun x hx => ?_)
  rcases List.mem_append.1 hx with hx | hx
  · exact (right_six h1).2.2.2.2.2 x hx
  · rw [List.mem_singleton.1 hx]; exact hk
theorem puts_pow {l : List (Int × List Sec)} : ∀ {d : Dev}, PowD d → (∀ x ∈ l, thereB d.pages.length x.1 = true) → putsP d l = (0, addD d l) ∧ PowD (addD d l) := by
  induction l with
  | nil => intro d h _; exact ⟨by rw [addD_nil]; rfl, by rw [addD_nil]; exact h⟩
  | cons x l ih =>
    intro d h hl
    obtain ⟨h1, h2⟩ := put_pow h (hl x (by simp)) x.2
    obtain ⟨h3, h4⟩ := ih h2 (fun y hy => hl y (by simp [hy]))
    rw [addD_addD] at h3 h4
    refine ⟨?_, h4⟩
    rw [putsP, h1, if_neg (by simp)]
    exact h3
theorem read_pow {d : Dev} (h1 : rightD d = true) (h2 : d.off = false) {k : Int} (hk : thereB d.pages.length k = true) : readP d k = (0, saysP d.pages d.cache k) := by
  rw [readP, if_neg (by rw [h1]; decide), if_neg (by rw [h2]; decide), if_neg (by rw [hk]; decide)]
theorem ofPage_none {k : Int} {l : List (Int × List Sec)} (h : ∀ x ∈ l, x.1 ≠ k) : ofPage k l = [] := by
  unfold ofPage
  rw [List.map_eq_nil_iff, List.filter_eq_nil_iff]
  intro x hx
  simpa using h x hx
theorem says_no {P : List (List Sec)} {c l : List (Int × List Sec)} {k : Int} (h : ∀ x ∈ l, x.1 ≠ k) : saysP P (c ++ l) k = saysP P c k := by
  unfold saysP
  rw [ofPage_append, ofPage_none h, List.append_nil]
theorem says_at {P : List (List Sec)} {c l1 l2 : List (Int × List Sec)} {k : Int} {b : List Sec} (h : ∀ x ∈ l2, x.1 ≠ k) : saysP P (c ++ (l1 ++ (k, b) :: l2)) k = b := by
  unfold saysP
  have e : ofPage k ((k, b) :: l2) = [b] := by
    have h2 := ofPage_append k [(k, b)] l2
    rw [ofPage_none h, List.append_nil] at h2
    rw [show (k, b) :: l2 = [(k, b)] ++ l2 from rfl, h2]
    simp [ofPage]
  rw [ofPage_append, ofPage_append, e, ← List.append_assoc, List.getLast?_append]
  rfl
/-- a flush, with its power -/
def flD (d : Dev) : Dev := { d with pages := settleAll d.pages d.cache, cache := [] }
theorem settleAll_len (P : List (List Sec)) (l : List (Int × List Sec)) : (settleAll P l).length = P.length := by
  induction l generalizing P with
  | nil => rfl
  | cons x l ih => show (settleAll (settle P x 15) l).length = _; rw [ih, settle_length]
theorem settleBy_len (P : List (List Sec)) (l : List (Int × List Sec)) (ms : List Int) : (settleBy P l ms).length = P.length := by
  induction l generalizing P ms with
  | nil => cases ms <;> rfl
  | cons x l ih =>
    cases ms with
    | nil => rfl
    | cons m ms => show (settleBy (settle P x m) l ms).length = _; rw [ih, settle_length]
theorem flush_pow {d : Dev} (h : PowD d) : goesP d (flushP d) = (0, flD d) ∧ PowD (flD d) := by
  have hb := burn_pow h
  obtain ⟨h1, h2, h3⟩ := h
  have e : flushP d = (0, flD d) := by rw [flushP, hb, h2, if_neg (by decide)]; rfl
  exact ⟨by rw [e, goesP_on h1 h2 (.inl rfl)], right_keep h1 (settleAll_len _ _) rfl rfl (fun x hx => absurd hx (by simp [flD])), h2, h3⟩
theorem says_flush {d : Dev} (hr : rightD d = true) (hg : DGood d) {k : Int} (hk : thereB d.pages.length k = true) : saysP (flD d).pages (flD d).cache k = saysP d.pages d.cache k := by
  obtain ⟨p, rfl, hp⟩ := there_nat hk
  show saysP (settleAll d.pages d.cache) [] (p : Int) = _
  rw [saysP_zero, Int.toNat_natCast]
  exact settleAll_says d.pages d.cache (fun x hx => ⟨(right_six hr).2.2.2.2.2 x hx, (hg.cache x hx).1⟩) p hp
/-- a crash -/
def crD (d : Dev) (ms : List Int) : Dev := ⟨settleBy d.pages d.cache ms, [], -1, false⟩
theorem crash_do {d : Dev} (h : rightD d = true) {ms : List Int} (hm : masksB ms = true) : crashP d ms = (0, crD d ms) ∧ PowD (crD d ms) := by
  obtain ⟨b1, b2, _⟩ := right_six h
  refine ⟨by rw [crashP, if_neg (by rw [h]; decide), if_neg (by rw [hm]; decide)]; rfl, right_of ?_ ?_ (show (-1 : Int) ≤ -1 by decide) (show (-1 : Int) ≤ 10000 by decide) (fun _ => rfl) (fun x hx => absurd hx (by simp [crD])), rfl, rfl⟩
  · show 24 ≤ (settleBy _ _ _).length; rw [settleBy_len]; exact b1
  · show (settleBy _ _ _).length ≤ 256; rw [settleBy_len]; exact b2
theorem settleBy_no (P : List (List Sec)) (l : List (Int × List Sec)) (ms : List Int) (p : Nat) (hp : p < P.length) (hl : ∀ x ∈ l, 0 ≤ x.1 ∧ x.1 ≠ (p : Int)) : (settleBy P l ms).getD p zeroB = P.getD p zeroB := by
  induction l generalizing P ms with
  | nil => cases ms <;> rfl
  | cons x l ih =>
    cases ms with
    | nil => rfl
    | cons m ms =>
      have h0 := hl x (by simp)
      show (settleBy (settle P x m) l ms).getD p zeroB = _
      rw [ih (settle P x m) ms (by rw [settle_length]; exact hp) (fun y hy => hl y (by simp [hy])), settle_getD _ _ _ _ hp, if_neg (by omega)]
/-- what a page is behind a crash: as far as its write came through -/
def came (old new : List Sec) : Option Int → List Sec
  | some m => mixB old new m
  | none => old
theorem settleBy_at (P : List (List Sec)) (l1 l2 : List (Int × List Sec)) (ms : List Int) (p : Nat) (b : List Sec) (hp : p < P.length) (h1 : ∀ x ∈ l1, 0 ≤ x.1 ∧ x.1 ≠ (p : Int)) (h2 : ∀ x ∈ l2, 0 ≤ x.1 ∧ x.1 ≠ (p : Int)) : (settleBy P (l1 ++ ((p : Int), b) :: l2) ms).getD p zeroB = came (P.getD p zeroB) b ms[l1.length]? := by
  induction l1 generalizing P ms with
  | nil =>
    cases ms with
    | nil => rfl
    | cons m ms =>
      show (settleBy (settle P ((p : Int), b) m) l2 ms).getD p zeroB = mixB (P.getD p zeroB) b m
      rw [settleBy_no _ _ _ _ (by rw [settle_length]; exact hp) h2, settle_getD _ _ _ _ hp, if_pos (by simp)]
  | cons x l ih =>
    cases ms with
    | nil => rfl
    | cons m ms =>
      have h0 := h1 x (by simp)
      show (settleBy (settle P x m) (l ++ ((p : Int), b) :: l2) ms).getD p zeroB = came (P.getD p zeroB) b ms[l.length]?
      rw [ih (settle P x m) ms (by rw [settle_length]; exact hp) (fun y hy => h1 y (by simp [hy])), settle_getD _ _ _ _ hp, if_neg (by omega)]
theorem mixB_none (old new : List Sec) (h : old.length = 4) : mixB old new 0 = old := by
  match old, h with
  | [a, b, c, d], _ => simp [mixB, List.range, List.range.loop]
theorem mem_getD {b : List Sec} (h : b.length = 4) (s : Sec) : s ∈ b ↔ ∃ k, k < 4 ∧ b.getD k (0, []) = s := by
  constructor
  · intro hs
    obtain ⟨k, hk, e⟩ := List.getElem_of_mem hs
    exact ⟨k, by omega, by rw [getD_mem k hk]; exact e⟩
  · rintro ⟨k, hk, rfl⟩
    rw [getD_mem k (by omega)]; exact List.getElem_mem _
theorem mixB_four (old new : List Sec) (m : Int) : (mixB old new m).length = 4 := by simp [mixB]
/-- of a write of which but some sectors came there is no stamp, if what lay there has other stamps -/
theorem torn (old new : List Sec) (m : Int) (n : Nat) (hm0 : 0 ≤ m) (hm : m < 16) (h0 : m ≠ 0) (h15 : m ≠ 15) (ho : old.length = 4) (hn : new.length = 4) (hos : ∀ s ∈ old, s.1 ≠ n) (hns : ∀ s ∈ new, s.1 = n) : stampB (mixB old new m) = false := by
  cases hs : stampB (mixB old new m) with
  | false => rfl
  | true =>
    simp only [stampB, Bool.and_eq_true, decide_eq_true_eq, List.all_eq_true, beq_iff_eq] at hs
    have hall : ∀ k, k < 4 → ((mixB old new m).getD k (0, [])).1 = st0 (mixB old new m) := fun k hk => hs.2 _ ((mem_getD (mixB_four old new m) _).2 ⟨k, hk, rfl⟩)
    have hbit : ∀ k, k < 4 → (((m / 2 ^ k) % 2 = 1 ∧ ((mixB old new m).getD k (0, [])).1 = n) ∨ ((m / 2 ^ k) % 2 ≠ 1 ∧ ((mixB old new m).getD k (0, [])).1 ≠ n)) := fun k hk => by
      rw [mixB_getD _ _ _ _ hk]
      by_cases h : (m / 2 ^ k) % 2 = 1
      · rw [if_pos h]; exact .inl ⟨h, hns _ ((mem_getD hn _).2 ⟨k, hk, rfl⟩)⟩
      · rw [if_neg h]; exact .inr ⟨h, hos _ ((mem_getD ho _).2 ⟨k, hk, rfl⟩)⟩
    have a0 := hall 0 (by decide)
    have a1 := hall 1 (by decide)
    have a2 := hall 2 (by decide)
    have a3 := hall 3 (by decide)
    have b0 := hbit 0 (by decide)
    have b1 := hbit 1 (by decide)
    have b2 := hbit 2 (by decide)
    have b3 := hbit 3 (by decide)
    rw [a0] at b0
    rw [a1] at b1
    rw [a2] at b2
    rw [a3] at b3
    simp only [Nat.reducePow, Int.reducePow] at b0 b1 b2 b3
    exfalso
    by_cases e : st0 (mixB old new m) = n
    · have c0 := b0.resolve_right (fun h => h.2 e)
      have c1 := b1.resolve_right (fun h => h.2 e)
      have c2 := b2.resolve_right (fun h => h.2 e)
      have c3 := b3.resolve_right (fun h => h.2 e)
      omega
    · have c0 := b0.resolve_left (fun h => e h.2)
      have c1 := b1.resolve_left (fun h => e h.2)
      have c2 := b2.resolve_left (fun h => e h.2)
      have c3 := b3.resolve_left (fun h => e h.2)
      omega
end Go.Proofs.Ytgfmpkcgkjpgnaa
end
section
/-
  FILES THAT ARE LAID, in plain Lean: writes one behind the other.
-/
namespace Go.Proofs.Ytgfmpkcgkjpgnaa
open Go.ChangeShapes Go.WideShapes Go.ChangeAt Go.RowKit Agg Pg Dv Fi
/-- a file's blocks, on their pages -/
def blksF (kind : Int) (n : Nat) (B : List UInt8) : Nat → List Int → List (Int × List Sec)
  | _, [] => []
  | i, a :: l => (a, layB kind (partB B i) (n + i)) :: blksF kind n B (i + 1) l
theorem blksF_drop (kind : Int) (n : Nat) (B : List UInt8) (A : List Int) (k : Nat) (h : k < A.length) : blksF kind n B k (A.drop k) = (A[k], layB kind (partB B k) (n + k)) :: blksF kind n B (k + 1) (A.drop (k + 1)) := by
  rw [List.drop_eq_getElem_cons h, blksF]
theorem partB_len (B : List UInt8) (i : Nat) : (partB B i).length ≤ 120 := by unfold partB; rw [List.length_take]; omega
theorem lay_bok (kind : Int) (d : List UInt8) (n : Nat) (h : d.length ≤ 120) (hn : n < 18446744073709551616) : BOk (layB kind d n) := ⟨(layB_ok kind d n h).1, fun s hs => ⟨(layB_ok kind d n h).2 s hs, by
  simp only [layB, secsOf, List.mem_cons, List.not_mem_nil, or_false] at hs
  rcases hs with rfl | rfl | rfl | rfl <;> exact hn⟩⟩
/-- a world in which but one old block may be another -/
theorem grown_trans {w1 w2 w3 : World} {g : Nat} (h1 : w1.grownBy w2 (some g)) (h2 : w2.grownBy w3 (some g)) : w1.grownBy w3 (some g) :=
  ⟨h2.os.trans h1.os, h2.tape.trans h1.tape, h2.output.trans h1.output, Nat.le_trans h1.size h2.size, fun k hk hne => (h2.block k (Nat.lt_of_lt_of_le hk h1.size) hne).trans (h1.block k hk hne)⟩
theorem below_grown {w1 w2 : World} (h : Below w1.heap.size w1 w2) (g : Option Nat) : w1.grownBy w2 g := ⟨h.os, h.tape, h.output, h.size, fun k hk _ => h.block k hk⟩
theorem grown_base {w0 w1 w2 : World} {g : Nat} (h0 : Below w0.heap.size w0 w1) (h : w1.grownBy w2 (some g)) (hg : w0.heap.size ≤ g) : Below w0.heap.size w0 w2 := h0.trans (grown_below h h0.size (fun j e => by cases e; exact hg))
/-- a file that is laid, with its device -/
def LaidR (w : World) (kl : Nat) (d : Dev) (ax : Option Addr) (na ac : Nat) (kind : Int) : Prop := ∃ (px cx : Option Addr) (pc cc : Nat), Blk w kl 92 (LaidV px cx ax d.pages.length pc d.cache.length cc na ac d.fuse d.off kind) ∧ Pgs w (.slice px d.pages.length pc) d.pages ∧ Wrs w (.slice cx d.cache.length cc) d.cache
theorem u64_small {k : Int} (h0 : 0 ≤ k) (h1 : k < 18446744073709551616) : IntKind.u64.wrap k = k := by
  rw [u64_wrap, Int.emod_eq_of_lt h0 h1]
theorem build_page (k : Int) (b o n m : Nat) (w : World) : (Instr.build 101 #[(0, .int .i64 k), (1, .slice (some ⟨b, o, none⟩) n m)]).run Try.prog w = .ok (.agg #[.int .i64 k, .slice (some ⟨b, o, none⟩) n m]) w := by simp [go_sem]
end Go.Proofs.Ytgfmpkcgkjpgnaa
end
section
/-
  FILES THAT ARE GOT, in plain Lean.
-/
namespace Go.Proofs.Ytgfmpkcgkjpgnaa
open Go.ChangeShapes Go.WideShapes Go.ChangeAt Go.RowKit Agg Pg Dv Fi
/-- a file is got, page behind page: its bytes so far, its first stamp -/
noncomputable def getsP (d : Dev) (kind bytes : Int) : Nat → Nat → List UInt8 → List Int → List UInt8 × Int
  | _, _, out, [] => (out, 0)
  | i, first, out, a :: l =>
    if (readP d a).1 ≠ 0 then ([], (readP d a).1)
    else if (readR (readP d a).2).2.2 = 0 ∧ (readR (readP d a).2).1.1 = kind ∧ (readR (readP d a).2).2.1 = (if i = 0 then (readR (readP d a).2).2.1 else first) + i ∧ ((readR (readP d a).2).1.2.length : Int) = min (bytes - out.length) 120
    then getsP d kind bytes (i + 1) (if i = 0 then (readR (readP d a).2).2.1 else first) (out ++ (readR (readP d a).2).1.2) l
    else ([], 300)
theorem readR_cases (b : List Sec) (hb : BOk b) (k : Int) (d : List UInt8) (n : Nat) (er : Int) (h : readR b = ((k, d), n, er)) : (er = 0 ∧ pageP k d ∧ stampP n ∧ layB k d n = b) ∨ (er ≠ 0 ∧ k = 0 ∧ d = [] ∧ n = 0) := by
  unfold readR at h
  split at h
  · rename_i hs
    split at h
    · rename_i hh
      split at h
      · rename_i hf
        simp only [Prod.mk.injEq] at h
        obtain ⟨⟨rfl, rfl⟩, rfl, rfl⟩ := h
        simp only [stampB, Bool.and_eq_true, decide_eq_true_eq, List.all_eq_true, beq_iff_eq] at hs
        have hl := lay_again b hb.1 hb.len hs.2 hh hf
        exact .inl ⟨rfl, hl.1, hs.1, hl.2⟩
      · simp only [Prod.mk.injEq] at h
        obtain ⟨⟨rfl, rfl⟩, rfl, rfl⟩ := h
        exact .inr ⟨by decide, rfl, rfl, rfl⟩
    · simp only [Prod.mk.injEq] at h
      obtain ⟨⟨rfl, rfl⟩, rfl, rfl⟩ := h
      exact .inr ⟨by decide, rfl, rfl, rfl⟩
  · simp only [Prod.mk.injEq] at h
    obtain ⟨⟨rfl, rfl⟩, rfl, rfl⟩ := h
    exact .inr ⟨by decide, rfl, rfl, rfl⟩
/-- what is put: the error, the device -/
def fPut (d : Dev) (A : List Int) (kind : Int) (n : Nat) (B : List UInt8) : Int × Dev :=
  if rightD d = false then (260, dev0) else if d.off then (10, d)
  else if mayB A kind B.length d.pages.length = false then (2, dev0)
  else if ¬ stampP n then (2, dev0)
  else if 4611686018427387904 - n < A.length - 1 then (8, dev0) else putsP d (blksF kind n B 0 A)
/-- what is got: the bytes, the error -/
noncomputable def fGet (d : Dev) (A : List Int) (kind bytes : Int) : List UInt8 × Int :=
  if rightD d = false then ([], 260) else if d.off then ([], 10)
  else if mayB A kind bytes d.pages.length = false then ([], 2) else getsP d kind bytes 0 0 [] A
theorem readP_bok {d : Dev} (h : DGood d) (k : Int) : BOk (readP d k).2 := by
  rw [readP]
  split
  · exact zeroB_bok
  · split
    · exact zeroB_bok
    · split
      · exact zeroB_bok
      · exact saysP_bok h.pages h.cache k
end Go.Proofs.Ytgfmpkcgkjpgnaa
end
