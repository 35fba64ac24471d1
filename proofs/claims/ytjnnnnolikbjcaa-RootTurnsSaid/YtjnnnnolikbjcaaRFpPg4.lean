/-
  PAGES AND BLOCKS, in plain Lean: their cells, what a page's block is, which page a block has.
-/
import Derived.Laws.BytesString
import Derived.ChangeKeysEq
import Derived.Deep.Cut
import Derived.Test.YtjnnnnolikbjcaaRFdDw1
import Derived.Test.YtjnnnnolikbjcaaCrcPlain
import Derived.Test.YtjnnnnolikbjcaaRow
import Derived.Test.YtjnnnnolikbjcaaPRef2
import Derived.Test.YtjnnnnolikbjcaaRFdDwP
import Derived.Test.YtjnnnnolikbjcaaRDv7
section
namespace Pg
open Go Go.RowKit Agg

/-- a block's bytes -/
def bytesB (b : List Sec) : List UInt8 := b.flatMap (·.2)
theorem bytesB_length (b : List Sec) (h : Len32 b) : (bytesB b).length = b.length * 32 := by
  induction b with
  | nil => rfl
  | cons s r ih =>
    have e : bytesB (s :: r) = s.2 ++ bytesB r := rfl
    rw [e, List.length_append, h s (by simp), ih (fun x hx => h x (by simp [hx])), List.length_cons]; omega
def stampP (n : Nat) : Prop := 1 ≤ n ∧ n ≤ 4611686018427387904
instance (n : Nat) : Decidable (stampP n) := by unfold stampP; infer_instance
/-- the first sector's stamp -/
def st0 (b : List Sec) : Nat := (b.headD (0, [])).1
/-- has a block a stamp? -/
def stampB (b : List Sec) : Bool := decide (stampP (st0 b)) && b.all fun s => s.1 == st0 b
/-- the block of so many bytes, all sectors stamped alike -/
def secsOf (n : Nat) (l : List UInt8) : List Sec := [(n, l.take 32), (n, (l.drop 32).take 32), (n, (l.drop 64).take 32), (n, (l.drop 96).take 32)]
theorem secsOf_ok (n : Nat) (l : List UInt8) (hl : l.length = 128) : (secsOf n l).length = 4 ∧ Len32 (secsOf n l) := by
  refine ⟨rfl, fun s hs => ?_⟩
  simp only [secsOf, List.mem_cons, List.not_mem_nil, or_false] at hs
  rcases hs with rfl | rfl | rfl | rfl <;> simp [hl]
theorem secsOf_bytes (n : Nat) (l : List UInt8) (hl : l.length = 128) : bytesB (secsOf n l) = l := by
  simp only [bytesB, secsOf, List.flatMap_cons, List.flatMap_nil, List.append_nil]
  have e3 : (l.drop 96).take 32 = l.drop 96 := List.take_of_length_le (by simp [hl])
  have e2 : (l.drop 64).take 32 ++ l.drop 96 = l.drop 64 := by
    have := List.take_append_drop 32 (l.drop 64)
    rwa [List.drop_drop] at this
  have e1 : (l.drop 32).take 32 ++ l.drop 64 = l.drop 32 := by
    have := List.take_append_drop 32 (l.drop 32)
    rwa [List.drop_drop] at this
  rw [e3, e2, e1, List.take_append_drop]
theorem secsOf_st0 (n : Nat) (l : List UInt8) : st0 (secsOf n l) = n := rfl
/-- a block of four sectors that are stamped alike is made of its bytes -/
theorem secsOf_self (b : List Sec) (h4 : b.length = 4) (hl : Len32 b) (h : ∀ s ∈ b, s.1 = st0 b) : secsOf (st0 b) (bytesB b) = b := by
  match b, h4 with
  | [a, c, d, e], _ =>
    obtain ⟨na, la⟩ := a
    obtain ⟨nc, lc⟩ := c
    obtain ⟨nd, ld⟩ := d
    obtain ⟨ne, le⟩ := e
    have h1 : la.length = 32 := hl (na, la) (by simp)
    have h2 : lc.length = 32 := hl (nc, lc) (by simp)
    have h3 : ld.length = 32 := hl (nd, ld) (by simp)
    have h5 : le.length = 32 := hl (ne, le) (by simp)
    have q2 : nc = na := h (nc, lc) (by simp)
    have q3 : nd = na := h (nd, ld) (by simp)
    have q4 : ne = na := h (ne, le) (by simp)
    subst q2; subst q3; subst q4
    simp only [bytesB, secsOf, List.flatMap_cons, List.flatMap_nil, List.append_nil, st0, List.headD_cons]
    have d1 : (la ++ (lc ++ (ld ++ le))).drop 32 = lc ++ (ld ++ le) := List.drop_left' h1
    have d2 : (la ++ (lc ++ (ld ++ le))).drop 64 = ld ++ le := by rw [show 64 = 32 + 32 from rfl, ← List.drop_drop, d1, List.drop_left' h2]
    have d3 : (la ++ (lc ++ (ld ++ le))).drop 96 = le := by rw [show 96 = 64 + 32 from rfl, ← List.drop_drop, d2, List.drop_left' h3]
    rw [d1, d2, d3, List.take_left' h1, List.take_left' h2, List.take_left' h3, List.take_of_length_le (by omega)]
/-- may a page be? -/
def pageP (kind : Int) (d : List UInt8) : Prop := 1 ≤ kind ∧ kind ≤ 4 ∧ d.length ≤ 120
instance (kind : Int) (d : List UInt8) : Decidable (pageP kind d) := by unfold pageP; infer_instance
/-- a page's bytes, ahead of their sum -/
def pre (kind : Int) (d : List UInt8) : List UInt8 := UInt8.ofNat kind.toNat :: UInt8.ofNat d.length :: 0 :: 0 :: (d ++ List.replicate (120 - d.length) 0)
theorem pre_length (kind : Int) (d : List UInt8) (h : d.length ≤ 120) : (pre kind d).length = 124 := by simp [pre]; omega
def layB (kind : Int) (d : List UInt8) (n : Nat) : List Sec := secsOf n (Crc.lay (pre kind d))
theorem lay_len (l : List UInt8) : (Crc.lay l).length = l.length + 4 := by simp [Crc.lay, Crc.bytes]
theorem layB_ok (kind : Int) (d : List UInt8) (n : Nat) (h : d.length ≤ 120) : (layB kind d n).length = 4 ∧ Len32 (layB kind d n) := secsOf_ok _ _ (by rw [lay_len, pre_length _ _ h])
theorem zeroB_ok : zeroB.length = 4 ∧ Len32 zeroB := ⟨rfl, fun s hs => by rw [List.eq_of_mem_replicate hs]; rfl⟩
theorem zeroB_cells : blkC zeroB = (List.replicate 4 (.int .u64 0 :: List.replicate 32 (.int .u8 0))).flatten := by
  simp only [zeroB, blkC, List.replicate_succ, List.replicate_zero, List.flatMap_cons, List.flatMap_nil, List.flatten_cons, List.flatten_nil]
  rfl
/-- is a block's form that of a page? (all: its bytes) -/
def formP (all : List UInt8) : Prop := (all.getD 1 0).toNat ≤ 120 ∧ 1 ≤ (all.getD 0 0).toNat ∧ (all.getD 0 0).toNat ≤ 4 ∧ all.getD 2 0 = 0 ∧ all.getD 3 0 = 0 ∧ ∀ i, 4 + (all.getD 1 0).toNat ≤ i → i < 124 → all.getD i 0 = 0
theorem formP_pre (kind : Int) (d c : List UInt8) (h : pageP kind d) : formP (pre kind d ++ c) ∧ ((pre kind d ++ c).getD 1 0).toNat = d.length ∧ (((pre kind d ++ c).getD 0 0).toNat : Int) = kind ∧ ((pre kind d ++ c).drop 4).take d.length = d := by
  obtain ⟨h1, h2, h3⟩ := h
  have e0 : ((pre kind d ++ c).getD 0 0).toNat = kind.toNat := by
    show (UInt8.ofNat kind.toNat).toNat = _
    rw [UInt8.toNat_ofNat']; omega
  have e1 : ((pre kind d ++ c).getD 1 0).toNat = d.length := by
    show (UInt8.ofNat d.length).toNat = _
    rw [UInt8.toNat_ofNat']; omega
  refine ⟨⟨by omega, by omega, by omega, rfl, rfl, fun i hi hlt => ?_⟩, e1, by omega, ?_⟩
  · rw [e1] at hi
    obtain ⟨j, rfl⟩ : ∃ j, i = j + 4 := ⟨i - 4, by omega⟩
    have : (pre kind d ++ c).getD (j + 4) 0 = (d ++ List.replicate (120 - d.length) 0 ++ c).getD j 0 := rfl
    rw [this, List.getD_eq_getElem?_getD, List.append_assoc, List.getElem?_append_right (by omega), List.getElem?_append_left (by simp; omega), List.getElem?_replicate, if_pos (by omega)]; rfl
  · show (d ++ List.replicate (120 - d.length) 0 ++ c).take d.length = d
    rw [List.append_assoc, List.take_left' rfl]
theorem pre_of_form (p : List UInt8) (c : List UInt8) (hp : p.length = 124) (h : formP (p ++ c)) : pre ((p ++ c).getD 0 0).toNat (((p ++ c).drop 4).take ((p ++ c).getD 1 0).toNat) = p := by
  match p, hp with
  | k :: n :: x :: y :: r, hp =>
    have hr : r.length = 120 := by simpa using hp
    obtain ⟨h1, h2, h3, h4, h5, h6⟩ := h
    have e0 : (k :: n :: x :: y :: r ++ c).getD 0 0 = k := rfl
    have e1 : (k :: n :: x :: y :: r ++ c).getD 1 0 = n := rfl
    have e2 : x = 0 := h4
    have e3 : y = 0 := h5
    have ed : (k :: n :: x :: y :: r ++ c).drop 4 = r ++ c := rfl
    subst e2; subst e3
    replace h1 : n.toNat ≤ 120 := h1
    replace h6 : ∀ i, 4 + n.toNat ≤ i → i < 124 → (k :: n :: 0 :: 0 :: r ++ c).getD i 0 = 0 := h6
    rw [e0, e1, ed]
    have ht : (r ++ c).take n.toNat = r.take n.toNat := List.take_append_of_le_length (by omega)
    have hl : (r.take n.toNat).length = n.toNat := by rw [List.length_take]; omega
    rw [ht]
    unfold pre
    rw [hl]
    have hz : r = r.take n.toNat ++ List.replicate (120 - n.toNat) 0 := by
      apply List.ext_getElem?
      intro j
      by_cases hj : j < n.toNat
      · rw [List.getElem?_append_left (by omega), List.getElem?_take_of_lt hj]
      · rw [List.getElem?_append_right (by omega), hl, List.getElem?_replicate]
        by_cases hj2 : j < 120
        · rw [if_pos (by omega)]
          have := h6 (j + 4) (by omega) (by omega)
          have e : (k :: n :: 0 :: 0 :: r ++ c).getD (j + 4) 0 = (r ++ c).getD j 0 := rfl
          rw [e, List.getD_eq_getElem?_getD, List.getElem?_append_left (by omega), List.getElem?_eq_getElem (by omega)] at this
          rw [List.getElem?_eq_getElem (by omega)]
          simpa using this
        · rw [if_neg (by omega), List.getElem?_eq_none (by omega)]
    rw [← hz]
    have q1 : UInt8.ofNat (Int.toNat (k.toNat : Int)) = k := by simp
    have q2 : UInt8.ofNat n.toNat = n := by simp
    rw [q1, q2]
/-- bytes that hold are a page's bytes with their sum -/
theorem split_hold (all : List UInt8) (hl : all.length = 128) (hh : Crc.sum all = 0#32) : ∃ p, p.length = 124 ∧ all = p ++ Crc.bytes (Crc.sum p) ∧ all = Crc.lay p := by
  have e := (List.take_append_drop 124 all).symm
  have hp : (all.take 124).length = 124 := by simp [hl]
  have hd : (all.drop 124).length = 4 := by simp [hl]
  generalize all.take 124 = p at e hp
  generalize all.drop 124 = q at e hd
  match q, hd with
  | [a, b, c, d], _ =>
    rw [e] at hh
    have := (Crc.holds_iff p a b c d).1 hh
    exact ⟨p, hp, by rw [this]; exact e, by rw [Crc.lay, this]; exact e⟩
theorem lay_again (b : List Sec) (h4 : b.length = 4) (hl : Len32 b) (hs : ∀ s ∈ b, s.1 = st0 b) (hh : Crc.sum (bytesB b) = 0#32) (hf : formP (bytesB b)) :
    pageP ((bytesB b).getD 0 0).toNat (((bytesB b).drop 4).take ((bytesB b).getD 1 0).toNat) ∧ layB ((bytesB b).getD 0 0).toNat (((bytesB b).drop 4).take ((bytesB b).getD 1 0).toNat) (st0 b) = b := by
  have h128 : (bytesB b).length = 128 := by rw [bytesB_length b hl, h4]
  obtain ⟨p, hp, e1, e2⟩ := split_hold _ h128 hh
  constructor
  · obtain ⟨h1, h2, h3, _⟩ := hf
    refine ⟨by omega, by omega, ?_⟩
    rw [List.length_take]; omega
  · have hpre := pre_of_form p (Crc.bytes (Crc.sum p)) hp (by rw [← e1]; exact hf)
    rw [← e1] at hpre
    rw [layB, hpre, ← e2, secsOf_self b h4 hl hs]
theorem form_of_lay (b : List Sec) (_h4 : b.length = 4) (_hl : Len32 b) (kind : Int) (d : List UInt8) (n : Nat) (hp : pageP kind d) (h : layB kind d n = b) :
    formP (bytesB b) ∧ Crc.sum (bytesB b) = 0#32 ∧ ((bytesB b).getD 1 0).toNat = d.length ∧ (((bytesB b).getD 0 0).toNat : Int) = kind ∧ ((bytesB b).drop 4).take d.length = d ∧ ∀ s ∈ b, s.1 = n := by
  have hb : bytesB b = pre kind d ++ Crc.bytes (Crc.sum (pre kind d)) := by
    rw [← h, layB, secsOf_bytes _ _ (by rw [lay_len, pre_length _ _ hp.2.2])]; rfl
  obtain ⟨h1, h2, h3, h5⟩ := formP_pre kind d (Crc.bytes (Crc.sum (pre kind d))) hp
  rw [← hb] at h1 h2 h3 h5
  refine ⟨h1, ?_, h2, h3, h5, ?_⟩
  · rw [hb]; exact Crc.lay_sum _
  · intro s hs
    rw [← h] at hs
    simp only [layB, secsOf, List.mem_cons, List.not_mem_nil, or_false] at hs
    rcases hs with rfl | rfl | rfl | rfl <;> rfl
theorem stampB_all {b : List Sec} (h : stampB b = true) : stampP (st0 b) ∧ ∀ s ∈ b, s.1 = st0 b := by
  simp only [stampB, Bool.and_eq_true, decide_eq_true_eq, List.all_eq_true, beq_iff_eq] at h
  exact h
open Classical in
/-- what is read of a block -/
noncomputable def readR (b : List Sec) : (Int × List UInt8) × Nat × Int :=
  if stampB b = true then
    if Crc.sum (bytesB b) = 0#32 then
      if formP (bytesB b) then (((((bytesB b).getD 0 0).toNat : Int), ((bytesB b).drop 4).take ((bytesB b).getD 1 0).toNat), st0 b, 0) else ((0, []), 0, 7)
    else ((0, []), 0, 271)
  else ((0, []), 0, 270)
theorem read_lay (kind : Int) (d : List UInt8) (n : Nat) (hp : pageP kind d) (hn : stampP n) : readR (layB kind d n) = ((kind, d), n, 0) := by
  have hk := layB_ok kind d n hp.2.2
  obtain ⟨h1, h2, h3, h5, h6, h7⟩ := form_of_lay _ hk.1 hk.2 kind d n hp rfl
  have hst : st0 (layB kind d n) = n := rfl
  have hs : stampB (layB kind d n) = true := by
    simp only [stampB, Bool.and_eq_true, decide_eq_true_eq, List.all_eq_true, beq_iff_eq, hst]
    exact ⟨hn, h7⟩
  rw [readR, if_pos hs, if_pos h2, if_pos h1, h3, h5, h6, hst]
end Pg
end
section
/-
  DEVICES WITH THEIR POWER, in plain Lean: writes one behind the other, what pages say behind them, behind a flush, behind a crash.
-/
namespace Go.Proofs.Ytjnnnnolikbjcaa
open Go.ChangeShapes Go.WideShapes Go.ChangeAt Go.RowKit Agg Pg Dv

/-- writes are put one behind the other, up to the first that is not -/
def putsP : Dev → List (Int × List Sec) → Int × Dev
  | d, [] => (0, d)
  | d, x :: l => if (goesP d (putP d x.1 x.2)).1 ≠ 0 then goesP d (putP d x.1 x.2) else putsP (goesP d (putP d x.1 x.2)).2 l
theorem putsP_good {l : List (Int × List Sec)} (hl : ∀ x ∈ l, BOk x.2) : ∀ {d : Dev}, DGood d → DGood (putsP d l).2 := by
  induction l with
  | nil => intro d h; exact h
  | cons x l ih =>
    intro d h
    have h1 := goesP_good h (putP_good h x.1 (hl x (by simp)))
    rw [putsP]
    split
    · exact h1
    · exact ih (fun y hy => hl y (by simp [hy])) h1
/-- a device with its power, no fuse lit -/
def PowD (d : Dev) : Prop := rightD d = true ∧ d.off = false ∧ d.fuse = -1
theorem burn_pow {d : Dev} (h : PowD d) : burnD d = d := by
  obtain ⟨P, l, z, q⟩ := d
  obtain ⟨_, h2, h3⟩ := h
  simp only at h2 h3
  subst h2; subst h3
  rfl
/-- .. with more that waits -/
def addD (d : Dev) (l : List (Int × List Sec)) : Dev := { d with cache := d.cache ++ l }
theorem addD_nil (d : Dev) : addD d [] = d := by unfold addD; rw [List.append_nil]
theorem addD_addD (d : Dev) (l m : List (Int × List Sec)) : addD (addD d l) m = addD d (l ++ m) := by unfold addD; simp only [List.append_assoc]
theorem put_pow {d : Dev} (h : PowD d) {k : Int} (hk : thereB d.pages.length k = true) (b : List Sec) : goesP d (putP d k b) = (0, addD d [(k, b)]) ∧ PowD (addD d [(k, b)]) := by
  have hb := burn_pow h
  obtain ⟨h1, h2, h3⟩ := h
  have e : putP d k b = (0, addD d [(k, b)]) := by rw [putP, if_neg (by rw [hk]; decide), hb, h2, if_neg (by decide)]; rfl
  refine ⟨by rw [e, goesP_on h1 h2 (.inl rfl)], ?_, h2, h3⟩
  refine right_keep h1 rfl rfl rfl (fun x hx => ?_)
  rcases List.mem_append.1 hx with hx | hx
  · exact (right_six h1).2.2.2.2.2 x hx
  · rw [List.mem_singleton.1 hx]; exact hk
theorem puts_pow {l : List (Int × List Sec)} : ∀ {d : Dev}, PowD d → (∀ x ∈ l, thereB d.pages.length x.1 = true) → putsP d l = (0, addD d l) ∧ PowD (addD d l) := by
  induction l with
  | nil => intro d h _; exact ⟨by rw [addD_nil]; rfl, by rw [addD_nil]; exact h⟩
  | cons x l ih =>
    intro d h hl
    obtain ⟨h1, h2⟩ := put_pow h (hl x (by simp)) x.2
    obtain ⟨h3, h4⟩ := ih h2 (fun y hy => hl y (by simp [hy]))
    rw [addD_addD] at h3 h4
    refine ⟨?_, h4⟩
    rw [putsP, h1, if_neg (by simp)]
    exact h3
theorem read_pow {d : Dev} (h1 : rightD d = true) (h2 : d.off = false) {k : Int} (hk : thereB d.pages.length k = true) : readP d k = (0, saysP d.pages d.cache k) := by
  rw [readP, if_neg (by rw [h1]; decide), if_neg (by rw [h2]; decide), if_neg (by rw [hk]; decide)]
theorem ofPage_none {k : Int} {l : List (Int × List Sec)} (h : ∀ x ∈ l, x.1 ≠ k) : ofPage k l = [] := by
  unfold ofPage
  rw [List.map_eq_nil_iff, List.filter_eq_nil_iff]
  intro x hx
  simpa using h x hx
theorem says_no {P : List (List Sec)} {c l : List (Int × List Sec)} {k : Int} (h : ∀ x ∈ l, x.1 ≠ k) : saysP P (c ++ l) k = saysP P c k := by
  unfold saysP
  rw [ofPage_append, ofPage_none h, List.append_nil]
theorem says_at {P : List (List Sec)} {c l1 l2 : List (Int × List Sec)} {k : Int} {b : List Sec} (h : ∀ x ∈ l2, x.1 ≠ k) : saysP P (c ++ (l1 ++ (k, b) :: l2)) k = b := by
  unfold saysP
  have e : ofPage k ((k, b) :: l2) = [b] := by
    have h2 := ofPage_append k [(k, b)] l2
    rw [ofPage_none h, List.append_nil] at h2
    rw [show (k, b) :: l2 = [(k, b)] ++ l2 from rfl, h2]
    simp [ofPage]
  rw [ofPage_append, ofPage_append, e, ← List.append_assoc, List.getLast?_append]
  rfl
/-- a flush, with its power -/
def flD (d : Dev) : Dev := { d with pages := settleAll d.pages d.cache, cache := [] }
theorem settleAll_len (P : List (List Sec)) (l : List (Int × List Sec)) : (settleAll P l).length = P.length := by
  induction l generalizing P with
  | nil => rfl
  | cons x l ih => show (settleAll (settle P x 15) l).length = _; rw [ih, settle_length]
theorem settleBy_len (P : List (List Sec)) (l : List (Int × List Sec)) (ms : List Int) : (settleBy P l ms).length = P.length := by
  induction l generalizing P ms with
  | nil => cases ms <;> rfl
  | cons x l ih =>
    cases ms with
    | nil => rfl
    | cons m ms => show (settleBy (settle P x m) l ms).length = _; rw [ih, settle_length]
theorem flush_pow {d : Dev} (h : PowD d) : goesP d (flushP d) = (0, flD d) ∧ PowD (flD d) := by
  have hb := burn_pow h
  obtain ⟨h1, h2, h3⟩ := h
  have e : flushP d = (0, flD d) := by rw [flushP, hb, h2, if_neg (by decide)]; rfl
  exact ⟨by rw [e, goesP_on h1 h2 (.inl rfl)], right_keep h1 (settleAll_len _ _) rfl rfl (fun x hx => absurd hx (by simp [flD])), h2, h3⟩
theorem says_flush {d : Dev} (hr : rightD d = true) (hg : DGood d) {k : Int} (hk : thereB d.pages.length k = true) : saysP (flD d).pages (flD d).cache k = saysP d.pages d.cache k := by
  obtain ⟨p, rfl, hp⟩ := there_nat hk
  show saysP (settleAll d.pages d.cache) [] (p : Int) = _
  rw [saysP_zero, Int.toNat_natCast]
  exact settleAll_says d.pages d.cache (fun x hx => ⟨(right_six hr).2.2.2.2.2 x hx, (hg.cache x hx).1⟩) p hp
/-- a crash -/
def crD (d : Dev) (ms : List Int) : Dev := ⟨settleBy d.pages d.cache ms, [], -1, false⟩
theorem crash_do {d : Dev} (h : rightD d = true) {ms : List Int} (hm : masksB ms = true) : crashP d ms = (0, crD d ms) ∧ PowD (crD d ms) := by
  obtain ⟨b1, b2, _⟩ := right_six h
  refine ⟨by rw [crashP, if_neg (by rw [h]; decide), if_neg (by rw [hm]; decide)]; rfl, right_of ?_ ?_ (show (-1 : Int) ≤ -1 by decide) (show (-1 : Int) ≤ 10000 by decide) (fun _ => rfl) (fun x hx => absurd hx (by simp [crD])), rfl, rfl⟩
  · show 24 ≤ (settleBy _ _ _).length; rw [settleBy_len]; exact b1
  · show (settleBy _ _ _).length ≤ 256; rw [settleBy_len]; exact b2
theorem settleBy_no (P : List (List Sec)) (l : List (Int × List Sec)) (ms : List Int) (p : Nat) (hp : p < P.length) (hl : ∀ x ∈ l, 0 ≤ x.1 ∧ x.1 ≠ (p : Int)) : (settleBy P l ms).getD p zeroB = P.getD p zeroB := by
  induction l generalizing P ms with
  | nil => cases ms <;> rfl
  | cons x l ih =>
    cases ms with
    | nil => rfl
    | cons m ms =>
      have h0 := hl x (by simp)
      show (settleBy (settle P x m) l ms).getD p zeroB = _
      rw [ih (settle P x m) ms (by rw [settle_length]; exact hp) (fun y hy => hl y (by simp [hy])), settle_getD _ _ _ _ hp, if_neg (by omega)]
/-- what a page is behind a crash: as far as its write came through -/
def came (old new : List Sec) : Option Int → List Sec
  | some m => mixB old new m
  | none => old
theorem settleBy_at (P : List (List Sec)) (l1 l2 : List (Int × List Sec)) (ms : List Int) (p : Nat) (b : List Sec) (hp : p < P.length) (h1 : ∀ x ∈ l1, 0 ≤ x.1 ∧ x.1 ≠ (p : Int)) (h2 : ∀ x ∈ l2, 0 ≤ x.1 ∧ x.1 ≠ (p : Int)) : (settleBy P (l1 ++ ((p : Int), b) :: l2) ms).getD p zeroB = came (P.getD p zeroB) b ms[l1.length]? := by
  induction l1 generalizing P ms with
  | nil =>
    cases ms with
    | nil => rfl
    | cons m ms =>
      show (settleBy (settle P ((p : Int), b) m) l2 ms).getD p zeroB = mixB (P.getD p zeroB) b m
      rw [settleBy_no _ _ _ _ (by rw [settle_length]; exact hp) h2, settle_getD _ _ _ _ hp, if_pos (by simp)]
  | cons x l ih =>
    cases ms with
    | nil => rfl
    | cons m ms =>
      have h0 := h1 x (by simp)
      show (settleBy (settle P x m) (l ++ ((p : Int), b) :: l2) ms).getD p zeroB = came (P.getD p zeroB) b ms[l.length]?
      rw [ih (settle P x m) ms (by rw [settle_length]; exact hp) (fun y hy => h1 y (by simp [hy])), settle_getD _ _ _ _ hp, if_neg (by omega)]
theorem mixB_none (old new : List Sec) (h : old.length = 4) : mixB old new 0 = old := by
  match old, h with
  | [a, b, c, d], _ => simp [mixB, List.range, List.range.loop]
theorem mem_getD {b : List Sec} (h : b.length = 4) (s : Sec) : s ∈ b ↔ ∃ k, k < 4 ∧ b.getD k (0, []) = s := by
  constructor
  · intro hs
    obtain ⟨k, hk, e⟩ := List.getElem_of_mem hs
    exact ⟨k, by omega, by rw [getD_mem k hk]; exact e⟩
  · rintro ⟨k, hk, rfl⟩
    rw [getD_mem k (by omega)]; exact List.getElem_mem _
theorem mixB_four (old new : List Sec) (m : Int) : (mixB old new m).length = 4 := by simp [mixB]
/-- of a write of which but some sectors came there is no stamp, if what lay there has other stamps -/
theorem torn (old new : List Sec) (m : Int) (n : Nat) (hm0 : 0 ≤ m) (hm : m < 16) (h0 : m ≠ 0) (h15 : m ≠ 15) (ho : old.length = 4) (hn : new.length = 4) (hos : ∀ s ∈ old, s.1 ≠ n) (hns : ∀ s ∈ new, s.1 = n) : stampB (mixB old new m) = false := by
  cases hs : stampB (mixB old new m) with
  | false => rfl
  | true =>
    simp only [stampB, Bool.and_eq_true, decide_eq_true_eq, List.all_eq_true, beq_iff_eq] at hs
    have hall : ∀ k, k < 4 → ((mixB old new m).getD k (0, [])).1 = st0 (mixB old new m) := fun k hk => hs.2 _ ((mem_getD (mixB_four old new m) _).2 ⟨k, hk, rfl⟩)
    have hbit : ∀ k, k < 4 → (((m / 2 ^ k) % 2 = 1 ∧ ((mixB old new m).getD k (0, [])).1 = n) ∨ ((m / 2 ^ k) % 2 ≠ 1 ∧ ((mixB old new m).getD k (0, [])).1 ≠ n)) := fun k hk => by
      rw [mixB_getD _ _ _ _ hk]
      by_cases h : (m / 2 ^ k) % 2 = 1
      · rw [if_pos h]; exact .inl ⟨h, hns _ ((mem_getD hn _).2 ⟨k, hk, rfl⟩)⟩
      · rw [if_neg h]; exact .inr ⟨h, hos _ ((mem_getD ho _).2 ⟨k, hk, rfl⟩)⟩
    have a0 := hall 0 (by decide)
    have a1 := hall 1 (by decide)
    have a2 := hall 2 (by decide)
    have a3 := hall 3 (by decide)
    have b0 := hbit 0 (by decide)
    have b1 := hbit 1 (by decide)
    have b2 := hbit 2 (by decide)
    have b3 := hbit 3 (by decide)
    rw [a0] at b0
    rw [a1] at b1
    rw [a2] at b2
    rw [a3] at b3
    simp only [Nat.reducePow, Int.reducePow] at b0 b1 b2 b3
    exfalso
    by_cases e : st0 (mixB old new m) = n
    · have c0 := b0.resolve_right (fun h => h.2 e)
      have c1 := b1.resolve_right (fun h => h.2 e)
      have c2 := b2.resolve_right (fun h => h.2 e)
      have c3 := b3.resolve_right (fun h => h.2 e)
      omega
    · have c0 := b0.resolve_left (fun h => e h.2)
      have c1 := b1.resolve_left (fun h => e h.2)
      have c2 := b2.resolve_left (fun h => e h.2)
      have c3 := b3.resolve_left (fun h => e h.2)
      omega
end Go.Proofs.Ytjnnnnolikbjcaa
end
section
/-
  PAGES: the functions that look at a page, and bytes.Equal, bytes.Clone.
-/
namespace Go.Proofs.Ytjnnnnolikbjcaa
open Go.ChangeShapes Go.WideShapes Go.ChangeAt Go.RowKit Agg Pg

theorem fo_Page_0 : Agg.fieldOff Try.prog 92 0 = some 0 := by kernel_rfl
theorem fo_Page_1 : Agg.fieldOff Try.prog 92 1 = some 1 := by kernel_rfl
theorem fo_Sec_0 : Agg.fieldOff Try.prog 36 0 = some 0 := by kernel_rfl
theorem fo_Sec_1 : Agg.fieldOff Try.prog 36 1 = some 1 := by kernel_rfl
theorem stampIs_any (n : Nat) (w : World) (r : Bool) (hr : decide (stampP n) = r) :
    Calls Try.prog 79 #[.int .u64 (n : Int)] w fun e w' => e = .returned (.bool r) ∧ Below w.heap.size w w' := by
  by_cases h1 : 1 ≤ n
  · by_cases h2 : n ≤ 4611686018427387904
    · have HR : Hid (r = true) := by show _ = _; rw [← hr]; exact decide_eq_true ⟨h1, h2⟩
      have q1 : (n : Int) ≥ 1 := by omega
      have q2 : (n : Int) ≤ 4611686018427387904 := by omega
      clear hr h1 h2
      have HB := Lib.hid (Below.refl w.heap.size w)
      go_enter Try.func79, Try.ntmps79
      go_wp2_with fail
      go_ret
      exact ⟨by rw [HR.out]; rfl, HB.out⟩
    · have HR : Hid (r = false) := by show _ = _; rw [← hr]; exact decide_eq_false (fun h => h2 h.2)
      have q1 : (n : Int) ≥ 1 := by omega
      have q2 : ¬ (n : Int) ≤ 4611686018427387904 := by omega
      clear hr h1 h2
      have HB := Lib.hid (Below.refl w.heap.size w)
      go_enter Try.func79, Try.ntmps79
      go_wp2_with fail
      go_ret
      exact ⟨by rw [HR.out]; rfl, HB.out⟩
  · have HR : Hid (r = false) := by show _ = _; rw [← hr]; exact decide_eq_false (fun h => h1 h.1)
    have q1 : ¬ (n : Int) ≥ 1 := by omega
    clear hr h1
    have HB := Lib.hid (Below.refl w.heap.size w)
    go_enter Try.func79, Try.ntmps79
    go_wp2_with fail
    go_ret
    exact ⟨by rw [HR.out]; rfl, HB.out⟩
/-- a page's cells -/
theorem check_any (kind : Int) (d : List UInt8) (dv : Value) (w : World) (hd : Bytes w dv d) (er : Int) (he : (if pageP kind d then 0 else 2) = er) :
    Calls Try.prog 78 #[.agg #[.int .i64 kind, dv]] w fun e w' => e = .returned (.int .i64 er) ∧ Below w.heap.size w w' := by
  obtain ⟨x, cap, rfl, hc, hm⟩ := SlR.shape hd
  have hc3 : cap ≤ 9223372036854775807 := by unfold maxLen at hm; omega
  clear hd hm
  by_cases h1 : kind < 1
  · have HR : Hid (er = 2) := by show _ = _; rw [← he]; exact if_neg (fun h => by have := h.1; omega)
    clear he
    have HB := Lib.hid (Below.refl w.heap.size w)
    go_enter Try.func78, Try.ntmps78
    go_wp2_with fail
    go_ret
    exact ⟨by rw [HR.out]; rfl, bel_alloc HB.out _⟩
  · by_cases h2 : kind > 4
    · have HR : Hid (er = 2) := by show _ = _; rw [← he]; exact if_neg (fun h => by have := h.2.1; omega)
      clear he
      have HB := Lib.hid (Below.refl w.heap.size w)
      go_enter Try.func78, Try.ntmps78
      go_wp2_with fail
      go_ret
      exact ⟨by rw [HR.out]; rfl, bel_alloc HB.out _⟩
    · by_cases h3 : (d.length : Int) > 120
      · have HR : Hid (er = 2) := by show _ = _; rw [← he]; exact if_neg (fun h => by have := h.2.2; omega)
        clear he
        have HB := Lib.hid (Below.refl w.heap.size w)
        go_enter Try.func78, Try.ntmps78
        go_wp2_with fail
        go_ret
        exact ⟨by rw [HR.out]; rfl, bel_alloc HB.out _⟩
      · have HR : Hid (er = 0) := by show _ = _; rw [← he]; exact if_pos ⟨by omega, by omega, by omega⟩
        clear he
        have HB := Lib.hid (Below.refl w.heap.size w)
        go_enter Try.func78, Try.ntmps78
        go_wp2_with fail
        go_ret
        exact ⟨by rw [HR.out]; rfl, bel_alloc HB.out _⟩
/-- bytes, as text -/
def strB (l : List UInt8) : ByteArray := ⟨l.toArray⟩
theorem strB_inj (l m : List UInt8) : ((strB l).toList == (strB m).toList) = decide (l = m) := by
  simp only [ByteArray.toList_eq, strB]
  rw [Bool.eq_iff_iff]
  simp
theorem push_all : ∀ (l : List UInt8) (a : ByteArray), (l.map fun c => ((c.toNat : Nat) : Int)).foldl (fun r n => r.push (UInt8.ofNat n.toNat)) a = ⟨a.data ++ l.toArray⟩ := by
  intro l
  induction l with
  | nil => intro a; simp
  | cons c r ih =>
    intro a
    rw [List.map_cons, List.foldl_cons, ih]
    simp [ByteArray.push]
theorem conv_str {l : List UInt8} {v : Value} {w : World} (h : Bytes w v l) : (convert 57 9 v).run Try.prog w = .ok (.string (strB l)) w := by
  rcases SlR.shape h with ⟨x, cap, rfl, _, _⟩
  rw [run_convert_bytes_string w 57 9 5 x l.length cap Try.underlying57 Try.underlying5 Try.underlying9]
  rcases h.2 with ⟨h1, h2⟩ | ⟨y, cap', h1, _, _, h5⟩
  · simp only [Value.slice.injEq] at h1
    obtain ⟨rfl, _, rfl⟩ := h1
    obtain rfl : l = [] := List.eq_nil_of_length_eq_zero h2
    rfl
  · simp only [Value.slice.injEq, true_and] at h1
    obtain ⟨rfl, rfl⟩ := h1
    have hl := run_loadCells_list (P := Try.prog) w y (bv l) h5
    rw [bv_length] at hl
    have := run_bytesToString (P := Try.prog) w y l.length cap (l.map fun c => ((c.toNat : Nat) : Int)) (by rw [hl]; simp [bv])
    rw [this, push_all]
    simp [strB, ByteArray.empty, ByteArray.emptyWithCapacity]
    rfl
theorem bytes_take {w : World} {x : Option Addr} {cap : Nat} {l : List UInt8} (h : Bytes w (.slice x l.length cap) l) (k : Nat) (hk : k ≤ l.length) : Bytes w (.slice x k cap) (l.take k) := by
  have := SlR.take h k hk
  rw [Nat.mul_one, ← bv_take] at this
  show SlR _ _ _ _ _
  rw [show (l.take k).length = k by rw [List.length_take]; omega]
  exact this
set_option maxRecDepth 100000 in
theorem bClone_any (l : List UInt8) (v : Value) (w : World) (hv : Bytes w v l) (hn : l.length ≤ 1000000) :
    Calls Try.prog 86 #[v] w fun e w' => ∃ u, e = .returned u ∧ w'.ownsRow w.heap.size 5 1 u l.length (bv l) ∧ Below w.heap.size w w' := by
  rcases hv.2 with ⟨rfl, h0⟩ | ⟨x, cap, rfl, hc1, hc2, h5⟩
  · have hl : l = [] := List.eq_nil_of_length_eq_zero h0
    subst hl
    have he : ∀ w : World, (binOp .eql 57 (.slice none 0 0) (.slice none 0 0)).run Try.prog w = .ok (.bool true) w := fun _ => rfl
    clear hv h0
    have HB := Lib.hid (Below.refl w.heap.size w)
    go_enter Try.func86, Try.ntmps86
    go_wp2_with fail
    go_ret
    exact ⟨_, rfl, World.ownsRow_nil _ _ _ _, HB.out⟩
  · have hc3 : cap ≤ 9223372036854775807 := by unfold maxLen at hc2; omega
    have hs := Lib.hid (SlR.keep hv ((Below.refl _ w).alloc (Nat.le_refl _) (.cells #[] 5)))
    have hown := Lib.hid (World.ownsRow_lit (e := 5) (size := 1) (base := w.heap.size) w #[] 0 (Nat.le_refl _) (by decide) rfl)
    clear hv h5 hc1 hc2
    have he : ∀ w : World, (binOp .eql 57 (.slice (some x) l.length cap) (.slice none 0 0)).run Try.prog w = .ok (.bool false) w := fun _ => rfl
    have HB := Lib.hid (Below.refl w.heap.size w)
    go_enter Try.func86, Try.ntmps86
    go_wp2_with (refine Agg.append ti25 _ _ rfl rfl w.heap.size (v := .slice (some ⟨w.heap.size, 0, none⟩) 0 0) rfl hown.out rfl hs.out (bv_one l) (by unfold maxLen; omega) (by omega) (by simp) ?_; intro v' w' ho hg hnil; simp only [Act.put, List.setIfInBounds_toArray, List.set_cons_succ, List.set_cons_zero])
    go_ret
    refine ⟨v', rfl, ?_, ?_⟩
    · simpa using ho
    · exact ((Below.refl _ w).alloc (Nat.le_refl _) _).trans ((grown_below hg (B := w.heap.size) (by simp) (by simp [Value.ownBlock])))
end Go.Proofs.Ytjnnnnolikbjcaa
end
section
/-
  PAGES: own, and the document's Right, Stamped, Same.
-/
namespace Go.Proofs.Ytjnnnnolikbjcaa
open Go.ChangeShapes Go.WideShapes Go.ChangeAt Go.RowKit Agg Pg

theorem stamped_any (n : Nat) (w : World) (r : Bool) (hr : decide (stampP n) = r) :
    Calls Try.prog 54 #[.int .u64 (n : Int)] w fun e w' => e = .returned (.bool r) ∧ Below w.heap.size w w' := by
  by_cases h1 : 1 ≤ n
  · by_cases h2 : n ≤ 4611686018427387904
    · have HR : Hid (r = true) := by show _ = _; rw [← hr]; exact decide_eq_true ⟨h1, h2⟩
      have q1 : (n : Int) ≥ 1 := by omega
      have q2 : (n : Int) ≤ 4611686018427387904 := by omega
      clear hr h1 h2
      have HB := Lib.hid (Below.refl w.heap.size w)
      go_enter Try.func54, Try.ntmps54
      go_wp2_with fail
      go_ret
      exact ⟨by rw [HR.out]; rfl, HB.out⟩
    · have HR : Hid (r = false) := by show _ = _; rw [← hr]; exact decide_eq_false (fun h => h2 h.2)
      have q1 : (n : Int) ≥ 1 := by omega
      have q2 : ¬ (n : Int) ≤ 4611686018427387904 := by omega
      clear hr h1 h2
      have HB := Lib.hid (Below.refl w.heap.size w)
      go_enter Try.func54, Try.ntmps54
      go_wp2_with fail
      go_ret
      exact ⟨by rw [HR.out]; rfl, HB.out⟩
  · have HR : Hid (r = false) := by show _ = _; rw [← hr]; exact decide_eq_false (fun h => h1 h.1)
    have q1 : ¬ (n : Int) ≥ 1 := by omega
    clear hr h1
    have HB := Lib.hid (Below.refl w.heap.size w)
    go_enter Try.func54, Try.ntmps54
    go_wp2_with fail
    go_ret
    exact ⟨by rw [HR.out]; rfl, HB.out⟩
end Go.Proofs.Ytjnnnnolikbjcaa
end
section
/-
  PAGES: the document's Same; a block's stamp, and its bytes.
-/
namespace Go.Proofs.Ytjnnnnolikbjcaa
open Go.ChangeShapes Go.WideShapes Go.ChangeAt Go.RowKit Agg Pg

theorem aiB : AI Try.prog 38 36 4 33 := ⟨by kernel_rfl, by kernel_rfl⟩
theorem aiD : AI Try.prog 34 5 32 1 := ⟨by kernel_rfl, by kernel_rfl⟩
/-- the closure of Stamp: is a sector's stamp the first one? -/
theorem clos_any (s : Sec) (_h : s.2.length = 32) (g n : Nat) (w : World) (hg : Blk w g 23 [.int .u64 (n : Int)]) (r : Bool) (hr : (s.1 == n) = r) :
    Calls Try.prog 91 #[.agg (secC s).toArray, .pointer (some ⟨g, 0, none⟩)] w fun e w' => e = .returned (.bool r) ∧ Below w.heap.size w w' := by
  have HG := Lib.hid hg
  have hb : ((s.1 : Int) == (n : Int)) = r := by
    rw [← hr, Bool.eq_iff_iff]
    simp only [beq_iff_eq]; omega
  have hc := (hg.al (.cells (secC s).toArray 36)).cell 0
  have hx : (w.alloc (.cells (secC s).toArray 36)).cell? ⟨w.heap.size, 0, none⟩ = some (.int .u64 (s.1 : Int)) := by
    rw [(Blk.new w 36 (secC s).toArray).cell 0]; rfl
  simp only [List.getElem?_cons_zero] at hc
  have hg1 := hg.lt
  clear hg hr
  have HB := Lib.hid (Below.refl w.heap.size w)
  go_enter Try.func91, Try.ntmps91
  go_wp2_with fail
  go_ret
  exact ⟨by rw [← hb]; rfl, bel_alloc HB.out _⟩
end Go.Proofs.Ytjnnnnolikbjcaa
end
