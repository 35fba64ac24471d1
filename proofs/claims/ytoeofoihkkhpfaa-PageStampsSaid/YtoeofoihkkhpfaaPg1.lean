/-
  PAGES AND BLOCKS, in plain Lean: their cells, what a page's block is, which page a block has.
-/
import Derived.Test.YtoeofoihkkhpfaaCrcPlain
import Derived.Test.YtoeofoihkkhpfaaRow
import Derived.Test.YtoeofoihkkhpfaaPRef2
namespace Pg
open Go Go.RowKit Agg

/-- a sector: its stamp, its bytes -/
abbrev Sec := Nat × List UInt8
def secC (s : Sec) : List Value := .int .u64 (s.1 : Int) :: bv s.2
def blkC (b : List Sec) : List Value := b.flatMap secC
def Len32 (b : List Sec) : Prop := ∀ s ∈ b, s.2.length = 32
def BOk (b : List Sec) : Prop := b.length = 4 ∧ ∀ s ∈ b, s.2.length = 32 ∧ s.1 < 18446744073709551616
theorem BOk.len {b : List Sec} (h : BOk b) : Len32 b := fun s hs => (h.2 s hs).1
theorem secC_length (s : Sec) (h : s.2.length = 32) : (secC s).length = 33 := by simp [secC, bv_length, h]
theorem blkC_cons (s : Sec) (b : List Sec) : blkC (s :: b) = secC s ++ blkC b := rfl
theorem blkC_append (a b : List Sec) : blkC (a ++ b) = blkC a ++ blkC b := List.flatMap_append
theorem blkC_length (b : List Sec) (h : Len32 b) : (blkC b).length = b.length * 33 := by
  induction b with
  | nil => rfl
  | cons s r ih =>
    rw [blkC_cons, List.length_append, secC_length s (h s (by simp)), ih (fun x hx => h x (by simp [hx])), List.length_cons]; omega
theorem blkC_one (b : List Sec) : ∀ u ∈ blkC b, u.oneCell' = true := by
  intro u hu
  obtain ⟨s, _, hs⟩ := List.mem_flatMap.1 hu
  rcases List.mem_cons.1 hs with rfl | h
  · rfl
  · exact bv_one _ u h
theorem secC_one (s : Sec) : ∀ u ∈ secC s, u.oneCell' = true := by
  intro u hu
  rcases List.mem_cons.1 hu with rfl | h
  · rfl
  · exact bv_one _ u h
/-- a block, cut at a sector -/
theorem cut_at (b : List Sec) (k : Nat) (h : k < b.length) : b = b.take k ++ (b[k] :: b.drop (k + 1)) := by
  rw [List.getElem_cons_drop]; exact (List.take_append_drop k b).symm
theorem take_len (b : List Sec) (hl : Len32 b) (k : Nat) (h : k ≤ b.length) : (blkC (b.take k)).length = k * 33 := by
  rw [blkC_length _ (fun s hs => hl s (List.mem_of_mem_take hs)), List.length_take]
  congr 1; omega
theorem blkC_sec (b : List Sec) (hl : Len32 b) (k : Nat) (h : k < b.length) (r : List Value) : ((blkC b ++ r).drop (k * 33)).take 33 = secC b[k] := by
  have e : blkC b = blkC (b.take k) ++ (secC b[k] ++ blkC (b.drop (k + 1))) := by
    conv => lhs; rw [cut_at b k h]
    rw [blkC_append, blkC_cons]
  rw [e, List.append_assoc, List.drop_left' (take_len b hl k (by omega)), List.append_assoc, List.take_left' (secC_length _ (hl _ (List.getElem_mem h)))]
theorem blkC_cell (b : List Sec) (hl : Len32 b) (k : Nat) (h : k < b.length) (r : List Value) (j : Nat) (hj : j < 33) : (blkC b ++ r)[k * 33 + j]? = (secC b[k])[j]? := by
  rw [← blkC_sec b hl k h r, List.getElem?_take_of_lt hj, List.getElem?_drop]
theorem blkC_stamp (b : List Sec) (hl : Len32 b) (k : Nat) (h : k < b.length) (r : List Value) : (blkC b ++ r)[k * 33]? = some (.int .u64 (b[k].1 : Int)) := blkC_cell b hl k h r 0 (by omega)
theorem blkC_byte (b : List Sec) (hl : Len32 b) (k : Nat) (h : k < b.length) (r : List Value) (j : Nat) (hj : j < b[k].2.length) : (blkC b ++ r)[k * 33 + (1 + j)]? = some (.int .u8 (b[k].2[j].toNat : Int)) := by
  have := hl _ (List.getElem_mem h)
  rw [blkC_cell b hl k h r (1 + j) (by omega), show 1 + j = j + 1 by omega]
  exact bv_get _ _ hj
theorem blkC_set (b : List Sec) (hl : Len32 b) (k : Nat) (h : k < b.length) (s : Sec) (hs : s.2.length = 32) (r : List Value) : spliced (blkC b ++ r) (k * 33) (secC s) = blkC (b.set k s) ++ r := by
  have e : blkC b ++ r = blkC (b.take k) ++ secC b[k] ++ (blkC (b.drop (k + 1)) ++ r) := by
    conv => lhs; rw [cut_at b k h]
    rw [blkC_append, blkC_cons]; simp only [List.append_assoc]
  have e2 : b.set k s = b.take k ++ (s :: b.drop (k + 1)) := by rw [List.set_eq_take_append_cons_drop, if_pos h]
  rw [e, spliced_mid _ _ _ _ _ (take_len b hl k (by omega)) (by rw [secC_length _ hs, secC_length _ (hl _ (List.getElem_mem h))]), e2, blkC_append, blkC_cons]
  simp only [List.append_assoc]
theorem blkC_put (b : List Sec) (hl : Len32 b) (k : Nat) (h : k < b.length) (d : List UInt8) (hd : d.length = 32) (r : List Value) : spliced (blkC b ++ r) (k * 33 + 1) (bv d) = blkC (b.set k (b[k].1, d)) ++ r := by
  have e : blkC b ++ r = (blkC (b.take k) ++ [.int .u64 (b[k].1 : Int)]) ++ bv b[k].2 ++ (blkC (b.drop (k + 1)) ++ r) := by
    conv => lhs; rw [cut_at b k h]
    rw [blkC_append, blkC_cons, secC]; simp only [List.append_assoc, List.cons_append, List.nil_append]
  have e2 : b.set k (b[k].1, d) = b.take k ++ ((b[k].1, d) :: b.drop (k + 1)) := by rw [List.set_eq_take_append_cons_drop, if_pos h]
  rw [e, spliced_mid _ _ _ _ _ (by rw [List.length_append, take_len b hl k (by omega)]; rfl) (by rw [bv_length, bv_length, hd, hl _ (List.getElem_mem h)]), e2, blkC_append, blkC_cons, secC]
  simp only [List.append_assoc, List.cons_append, List.nil_append]
theorem blkC_stamped (b : List Sec) (hl : Len32 b) (k : Nat) (h : k < b.length) (n : Nat) (r : List Value) : spliced (blkC b ++ r) (k * 33) [.int .u64 (n : Int)] = blkC (b.set k (n, b[k].2)) ++ r := by
  have e : blkC b ++ r = blkC (b.take k) ++ [.int .u64 (b[k].1 : Int)] ++ (bv b[k].2 ++ (blkC (b.drop (k + 1)) ++ r)) := by
    conv => lhs; rw [cut_at b k h]
    rw [blkC_append, blkC_cons, secC]; simp only [List.append_assoc, List.cons_append, List.nil_append]
  have e2 : b.set k (n, b[k].2) = b.take k ++ ((n, b[k].2) :: b.drop (k + 1)) := by rw [List.set_eq_take_append_cons_drop, if_pos h]
  rw [e, spliced_mid (blkC (b.take k)) [.int .u64 (b[k].1 : Int)] (bv b[k].2 ++ (blkC (b.drop (k + 1)) ++ r)) [.int .u64 (n : Int)] (k * 33) (take_len b hl k (by omega)) rfl, e2, blkC_append, blkC_cons, secC]
  simp only [List.append_assoc, List.cons_append, List.nil_append]
theorem set_len {b : List Sec} (hl : Len32 b) (k : Nat) (s : Sec) (hs : s.2.length = 32) : Len32 (b.set k s) := by
  intro x hx
  rcases List.mem_or_eq_of_mem_set hx with h | h
  · exact hl x h
  · rw [h]; exact hs

/-- a block's bytes -/
def bytesB (b : List Sec) : List UInt8 := b.flatMap (·.2)
theorem bytesB_length (b : List Sec) (h : Len32 b) : (bytesB b).length = b.length * 32 := by
  induction b with
  | nil => rfl
  | cons s r ih =>
    have e : bytesB (s :: r) = s.2 ++ bytesB r := rfl
    rw [e, List.length_append, h s (by simp), ih (fun x hx => h x (by simp [hx])), List.length_cons]; omega
def stampP (n : Nat) : Prop := 1 ≤ n ∧ n ≤ 4611686018427387904
instance (n : Nat) : Decidable (stampP n) := by unfold stampP; infer_instance
/-- the first sector's stamp -/
def st0 (b : List Sec) : Nat := (b.headD (0, [])).1
/-- has a block a stamp? -/
def stampB (b : List Sec) : Bool := decide (stampP (st0 b)) && b.all fun s => s.1 == st0 b
/-- the block of so many bytes, all sectors stamped alike -/
def secsOf (n : Nat) (l : List UInt8) : List Sec := [(n, l.take 32), (n, (l.drop 32).take 32), (n, (l.drop 64).take 32), (n, (l.drop 96).take 32)]
theorem secsOf_ok (n : Nat) (l : List UInt8) (hl : l.length = 128) : (secsOf n l).length = 4 ∧ Len32 (secsOf n l) := by
  refine ⟨rfl, fun s hs => ?_⟩
  simp only [secsOf, List.mem_cons, List.not_mem_nil, or_false] at hs
  rcases hs with rfl | rfl | rfl | rfl <;> simp [hl]
theorem secsOf_bytes (n : Nat) (l : List UInt8) (hl : l.length = 128) : bytesB (secsOf n l) = l := by
  simp only [bytesB, secsOf, List.flatMap_cons, List.flatMap_nil, List.append_nil]
  have e3 : (l.drop 96).take 32 = l.drop 96 := List.take_of_length_le (by simp [hl])
  have e2 : (l.drop 64).take 32 ++ l.drop 96 = l.drop 64 := by
    have := List.take_append_drop 32 (l.drop 64)
    rwa [List.drop_drop] at this
  have e1 : (l.drop 32).take 32 ++ l.drop 64 = l.drop 32 := by
    have := List.take_append_drop 32 (l.drop 32)
    rwa [List.drop_drop] at this
  rw [e3, e2, e1, List.take_append_drop]
theorem secsOf_st0 (n : Nat) (l : List UInt8) : st0 (secsOf n l) = n := rfl
/-- a block of four sectors that are stamped alike is made of its bytes -/
theorem secsOf_self (b : List Sec) (h4 : b.length = 4) (hl : Len32 b) (h : ∀ s ∈ b, s.1 = st0 b) : secsOf (st0 b) (bytesB b) = b := by
  match b, h4 with
  | [a, c, d, e], _ =>
    obtain ⟨na, la⟩ := a
    obtain ⟨nc, lc⟩ := c
    obtain ⟨nd, ld⟩ := d
    obtain ⟨ne, le⟩ := e
    have h1 : la.length = 32 := hl (na, la) (by simp)
    have h2 : lc.length = 32 := hl (nc, lc) (by simp)
    have h3 : ld.length = 32 := hl (nd, ld) (by simp)
    have h5 : le.length = 32 := hl (ne, le) (by simp)
    have q2 : nc = na := h (nc, lc) (by simp)
    have q3 : nd = na := h (nd, ld) (by simp)
    have q4 : ne = na := h (ne, le) (by simp)
    subst q2; subst q3; subst q4
    simp only [bytesB, secsOf, List.flatMap_cons, List.flatMap_nil, List.append_nil, st0, List.headD_cons]
    have d1 : (la ++ (lc ++ (ld ++ le))).drop 32 = lc ++ (ld ++ le) := List.drop_left' h1
    have d2 : (la ++ (lc ++ (ld ++ le))).drop 64 = ld ++ le := by rw [show 64 = 32 + 32 from rfl, ← List.drop_drop, d1, List.drop_left' h2]
    have d3 : (la ++ (lc ++ (ld ++ le))).drop 96 = le := by rw [show 96 = 64 + 32 from rfl, ← List.drop_drop, d2, List.drop_left' h3]
    rw [d1, d2, d3, List.take_left' h1, List.take_left' h2, List.take_left' h3, List.take_of_length_le (by omega)]
/-- may a page be? -/
def pageP (kind : Int) (d : List UInt8) : Prop := 1 ≤ kind ∧ kind ≤ 4 ∧ d.length ≤ 120
instance (kind : Int) (d : List UInt8) : Decidable (pageP kind d) := by unfold pageP; infer_instance
/-- a page's bytes, ahead of their sum -/
def pre (kind : Int) (d : List UInt8) : List UInt8 := UInt8.ofNat kind.toNat :: UInt8.ofNat d.length :: 0 :: 0 :: (d ++ List.replicate (120 - d.length) 0)
theorem pre_length (kind : Int) (d : List UInt8) (h : d.length ≤ 120) : (pre kind d).length = 124 := by simp [pre]; omega
def layB (kind : Int) (d : List UInt8) (n : Nat) : List Sec := secsOf n (Crc.lay (pre kind d))
theorem lay_len (l : List UInt8) : (Crc.lay l).length = l.length + 4 := by simp [Crc.lay, Crc.bytes]
theorem layB_ok (kind : Int) (d : List UInt8) (n : Nat) (h : d.length ≤ 120) : (layB kind d n).length = 4 ∧ Len32 (layB kind d n) := secsOf_ok _ _ (by rw [lay_len, pre_length _ _ h])
def zeroB : List Sec := List.replicate 4 (0, List.replicate 32 0)
theorem zeroB_ok : zeroB.length = 4 ∧ Len32 zeroB := ⟨rfl, fun s hs => by rw [List.eq_of_mem_replicate hs]; rfl⟩
theorem zeroB_cells : blkC zeroB = (List.replicate 4 (.int .u64 0 :: List.replicate 32 (.int .u8 0))).flatten := by
  simp only [zeroB, blkC, List.replicate_succ, List.replicate_zero, List.flatMap_cons, List.flatMap_nil, List.flatten_cons, List.flatten_nil]
  rfl
/-- is a block's form that of a page? (all: its bytes) -/
def formP (all : List UInt8) : Prop := (all.getD 1 0).toNat ≤ 120 ∧ 1 ≤ (all.getD 0 0).toNat ∧ (all.getD 0 0).toNat ≤ 4 ∧ all.getD 2 0 = 0 ∧ all.getD 3 0 = 0 ∧ ∀ i, 4 + (all.getD 1 0).toNat ≤ i → i < 124 → all.getD i 0 = 0
theorem formP_pre (kind : Int) (d c : List UInt8) (h : pageP kind d) : formP (pre kind d ++ c) ∧ ((pre kind d ++ c).getD 1 0).toNat = d.length ∧ (((pre kind d ++ c).getD 0 0).toNat : Int) = kind ∧ ((pre kind d ++ c).drop 4).take d.length = d := by
  obtain ⟨h1, h2, h3⟩ := h
  have e0 : ((pre kind d ++ c).getD 0 0).toNat = kind.toNat := by
    show (UInt8.ofNat kind.toNat).toNat = _
    rw [UInt8.toNat_ofNat']; omega
  have e1 : ((pre kind d ++ c).getD 1 0).toNat = d.length := by
    show (UInt8.ofNat d.length).toNat = _
    rw [UInt8.toNat_ofNat']; omega
  refine ⟨⟨by omega, by omega, by omega, rfl, rfl, fun i hi hlt => ?_⟩, e1, by omega, ?_⟩
  · rw [e1] at hi
    obtain ⟨j, rfl⟩ : ∃ j, i = j + 4 := ⟨i - 4, by omega⟩
    have : (pre kind d ++ c).getD (j + 4) 0 = (d ++ List.replicate (120 - d.length) 0 ++ c).getD j 0 := rfl
    rw [this, List.getD_eq_getElem?_getD, List.append_assoc, List.getElem?_append_right (by omega), List.getElem?_append_left (by simp; omega), List.getElem?_replicate, if_pos (by omega)]; rfl
  · show (d ++ List.replicate (120 - d.length) 0 ++ c).take d.length = d
    rw [List.append_assoc, List.take_left' rfl]
theorem pre_of_form (p : List UInt8) (c : List UInt8) (hp : p.length = 124) (h : formP (p ++ c)) : pre ((p ++ c).getD 0 0).toNat (((p ++ c).drop 4).take ((p ++ c).getD 1 0).toNat) = p := by
  match p, hp with
  | k :: n :: x :: y :: r, hp =>
    have hr : r.length = 120 := by simpa using hp
    obtain ⟨h1, h2, h3, h4, h5, h6⟩ := h
    have e0 : (k :: n :: x :: y :: r ++ c).getD 0 0 = k := rfl
    have e1 : (k :: n :: x :: y :: r ++ c).getD 1 0 = n := rfl
    have e2 : x = 0 := h4
    have e3 : y = 0 := h5
    have ed : (k :: n :: x :: y :: r ++ c).drop 4 = r ++ c := rfl
    subst e2; subst e3
    replace h1 : n.toNat ≤ 120 := h1
    replace h6 : ∀ i, 4 + n.toNat ≤ i → i < 124 → (k :: n :: 0 :: 0 :: r ++ c).getD i 0 = 0 := h6
    rw [e0, e1, ed]
    have ht : (r ++ c).take n.toNat = r.take n.toNat := List.take_append_of_le_length (by omega)
    have hl : (r.take n.toNat).length = n.toNat := by rw [List.length_take]; omega
    rw [ht]
    unfold pre
    rw [hl]
    have hz : r = r.take n.toNat ++ List.replicate (120 - n.toNat) 0 := by
      apply List.ext_getElem?
      intro j
      by_cases hj : j < n.toNat
      · rw [List.getElem?_append_left (by omega), List.getElem?_take_of_lt hj]
      · rw [List.getElem?_append_right (by omega), hl, List.getElem?_replicate]
        by_cases hj2 : j < 120
        · rw [if_pos (by omega)]
          have := h6 (j + 4) (by omega) (by omega)
          have e : (k :: n :: 0 :: 0 :: r ++ c).getD (j + 4) 0 = (r ++ c).getD j 0 := rfl
          rw [e, List.getD_eq_getElem?_getD, List.getElem?_append_left (by omega), List.getElem?_eq_getElem (by omega)] at this
          rw [List.getElem?_eq_getElem (by omega)]
          simpa using this
        · rw [if_neg (by omega), List.getElem?_eq_none (by omega)]
    rw [← hz]
    have q1 : UInt8.ofNat (Int.toNat (k.toNat : Int)) = k := by simp
    have q2 : UInt8.ofNat n.toNat = n := by simp
    rw [q1, q2]
/-- bytes that hold are a page's bytes with their sum -/
theorem split_hold (all : List UInt8) (hl : all.length = 128) (hh : Crc.sum all = 0#32) : ∃ p, p.length = 124 ∧ all = p ++ Crc.bytes (Crc.sum p) ∧ all = Crc.lay p := by
  have e := (List.take_append_drop 124 all).symm
  have hp : (all.take 124).length = 124 := by simp [hl]
  have hd : (all.drop 124).length = 4 := by simp [hl]
  generalize all.take 124 = p at e hp
  generalize all.drop 124 = q at e hd
  match q, hd with
  | [a, b, c, d], _ =>
    rw [e] at hh
    have := (Crc.holds_iff p a b c d).1 hh
    exact ⟨p, hp, by rw [this]; exact e, by rw [Crc.lay, this]; exact e⟩
theorem lay_again (b : List Sec) (h4 : b.length = 4) (hl : Len32 b) (hs : ∀ s ∈ b, s.1 = st0 b) (hh : Crc.sum (bytesB b) = 0#32) (hf : formP (bytesB b)) :
    pageP ((bytesB b).getD 0 0).toNat (((bytesB b).drop 4).take ((bytesB b).getD 1 0).toNat) ∧ layB ((bytesB b).getD 0 0).toNat (((bytesB b).drop 4).take ((bytesB b).getD 1 0).toNat) (st0 b) = b := by
  have h128 : (bytesB b).length = 128 := by rw [bytesB_length b hl, h4]
  obtain ⟨p, hp, e1, e2⟩ := split_hold _ h128 hh
  constructor
  · obtain ⟨h1, h2, h3, _⟩ := hf
    refine ⟨by omega, by omega, ?_⟩
    rw [List.length_take]; omega
  · have hpre := pre_of_form p (Crc.bytes (Crc.sum p)) hp (by rw [← e1]; exact hf)
    rw [← e1] at hpre
    rw [layB, hpre, ← e2, secsOf_self b h4 hl hs]
theorem form_of_lay (b : List Sec) (_h4 : b.length = 4) (_hl : Len32 b) (kind : Int) (d : List UInt8) (n : Nat) (hp : pageP kind d) (h : layB kind d n = b) :
    formP (bytesB b) ∧ Crc.sum (bytesB b) = 0#32 ∧ ((bytesB b).getD 1 0).toNat = d.length ∧ (((bytesB b).getD 0 0).toNat : Int) = kind ∧ ((bytesB b).drop 4).take d.length = d ∧ ∀ s ∈ b, s.1 = n := by
  have hb : bytesB b = pre kind d ++ Crc.bytes (Crc.sum (pre kind d)) := by
    rw [← h, layB, secsOf_bytes _ _ (by rw [lay_len, pre_length _ _ hp.2.2])]; rfl
  obtain ⟨h1, h2, h3, h5⟩ := formP_pre kind d (Crc.bytes (Crc.sum (pre kind d))) hp
  rw [← hb] at h1 h2 h3 h5
  refine ⟨h1, ?_, h2, h3, h5, ?_⟩
  · rw [hb]; exact Crc.lay_sum _
  · intro s hs
    rw [← h] at hs
    simp only [layB, secsOf, List.mem_cons, List.not_mem_nil, or_false] at hs
    rcases hs with rfl | rfl | rfl | rfl <;> rfl
theorem stampB_all {b : List Sec} (h : stampB b = true) : stampP (st0 b) ∧ ∀ s ∈ b, s.1 = st0 b := by
  simp only [stampB, Bool.and_eq_true, decide_eq_true_eq, List.all_eq_true, beq_iff_eq] at h
  exact h
open Classical in
/-- what is read of a block -/
noncomputable def readR (b : List Sec) : (Int × List UInt8) × Nat × Int :=
  if stampB b = true then
    if Crc.sum (bytesB b) = 0#32 then
      if formP (bytesB b) then (((((bytesB b).getD 0 0).toNat : Int), ((bytesB b).drop 4).take ((bytesB b).getD 1 0).toNat), st0 b, 0) else ((0, []), 0, 7)
    else ((0, []), 0, 271)
  else ((0, []), 0, 270)
theorem read_lay (kind : Int) (d : List UInt8) (n : Nat) (hp : pageP kind d) (hn : stampP n) : readR (layB kind d n) = ((kind, d), n, 0) := by
  have hk := layB_ok kind d n hp.2.2
  obtain ⟨h1, h2, h3, h5, h6, h7⟩ := form_of_lay _ hk.1 hk.2 kind d n hp rfl
  have hst : st0 (layB kind d n) = n := rfl
  have hs : stampB (layB kind d n) = true := by
    simp only [stampB, Bool.and_eq_true, decide_eq_true_eq, List.all_eq_true, beq_iff_eq, hst]
    exact ⟨hn, h7⟩
  rw [readR, if_pos hs, if_pos h2, if_pos h1, h3, h5, h6, hst]
end Pg
