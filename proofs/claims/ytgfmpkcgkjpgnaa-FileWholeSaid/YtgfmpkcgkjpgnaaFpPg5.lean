/-
  PAGES AND BLOCKS, in plain Lean: their cells, what a page's block is, which page a block has.
-/
import Derived.Laws.BytesString
import Derived.ChangeKeysEq
import Derived.Deep.Cut
import Derived.Test.YtgfmpkcgkjpgnaaFi1
import Derived.Test.YtgfmpkcgkjpgnaaCrcPlain
import Derived.Test.YtgfmpkcgkjpgnaaRow
import Derived.Test.YtgfmpkcgkjpgnaaPRef2
import Derived.Test.YtgfmpkcgkjpgnaaDv4
section
namespace Pg
open Go Go.RowKit Agg

/-- a block's bytes -/
def bytesB (b : List Sec) : List UInt8 := b.flatMap (·.2)
theorem bytesB_length (b : List Sec) (h : Len32 b) : (bytesB b).length = b.length * 32 := by
  induction b with
  | nil => rfl
  | cons s r ih =>
    have e : bytesB (s :: r) = s.2 ++ bytesB r := rfl
    rw [e, List.length_append, h s (by simp), ih (fun x hx => h x (by simp [hx])), List.length_cons]; omega
def stampP (n : Nat) : Prop := 1 ≤ n ∧ n ≤ 4611686018427387904
instance (n : Nat) : Decidable (stampP n) := by unfold stampP; infer_instance
/-- the first sector's stamp -/
def st0 (b : List Sec) : Nat := (b.headD (0, [])).1
/-- has a block a stamp? -/
def stampB (b : List Sec) : Bool := decide (stampP (st0 b)) && b.all fun s => s.1 == st0 b
/-- the block of so many bytes, all sectors stamped alike -/
def secsOf (n : Nat) (l : List UInt8) : List Sec := [(n, l.take 32), (n, (l.drop 32).take 32), (n, (l.drop 64).take 32), (n, (l.drop 96).take 32)]
theorem secsOf_ok (n : Nat) (l : List UInt8) (hl : l.length = 128) : (secsOf n l).length = 4 ∧ Len32 (secsOf n l) := by
  refine ⟨rfl, fun s hs => ?_⟩
  simp only [secsOf, List.mem_cons, List.not_mem_nil, or_false] at hs
  rcases hs with rfl | rfl | rfl | rfl <;> simp [hl]
theorem secsOf_bytes (n : Nat) (l : List UInt8) (hl : l.length = 128) : bytesB (secsOf n l) = l := by
  simp only [bytesB, secsOf, List.flatMap_cons, List.flatMap_nil, List.append_nil]
  have e3 : (l.drop 96).take 32 = l.drop 96 := List.take_of_length_le (by simp [hl])
  have e2 : (l.drop 64).take 32 ++ l.drop 96 = l.drop 64 := by
    have := List.take_append_drop 32 (l.drop 64)
    rwa [List.drop_drop] at this
  have e1 : (l.drop 32).take 32 ++ l.drop 64 = l.drop 32 := by
    have := List.take_append_drop 32 (l.drop 32)
    rwa [List.drop_drop] at this
  rw [e3, e2, e1, List.take_append_drop]
theorem secsOf_st0 (n : Nat) (l : List UInt8) : st0 (secsOf n l) = n := rfl
/-- a block of four sectors that are stamped alike is made of its bytes -/
theorem secsOf_self (b : List Sec) (h4 : b.length = 4) (hl : Len32 b) (h : ∀ s ∈ b, s.1 = st0 b) : secsOf (st0 b) (bytesB b) = b := by
  match b, h4 with
  | [a, c, d, e], _ =>
    obtain ⟨na, la⟩ := a
    obtain ⟨nc, lc⟩ := c
    obtain ⟨nd, ld⟩ := d
    obtain ⟨ne, le⟩ := e
    have h1 : la.length = 32 := hl (na, la) (by simp)
    have h2 : lc.length = 32 := hl (nc, lc) (by simp)
    have h3 : ld.length = 32 := hl (nd, ld) (by simp)
    have h5 : le.length = 32 := hl (ne, le) (by simp)
    have q2 : nc = na := h (nc, lc) (by simp)
    have q3 : nd = na := h (nd, ld) (by simp)
    have q4 : ne = na := h (ne, le) (by simp)
    subst q2; subst q3; subst q4
    simp only [bytesB, secsOf, List.flatMap_cons, List.flatMap_nil, List.append_nil, st0, List.headD_cons]
    have d1 : (la ++ (lc ++ (ld ++ le))).drop 32 = lc ++ (ld ++ le) := List.drop_left' h1
    have d2 : (la ++ (lc ++ (ld ++ le))).drop 64 = ld ++ le := by rw [show 64 = 32 + 32 from rfl, ← List.drop_drop, d1, List.drop_left' h2]
    have d3 : (la ++ (lc ++ (ld ++ le))).drop 96 = le := by rw [show 96 = 64 + 32 from rfl, ← List.drop_drop, d2, List.drop_left' h3]
    rw [d1, d2, d3, List.take_left' h1, List.take_left' h2, List.take_left' h3, List.take_of_length_le (by omega)]
/-- may a page be? -/
def pageP (kind : Int) (d : List UInt8) : Prop := 1 ≤ kind ∧ kind ≤ 4 ∧ d.length ≤ 120
instance (kind : Int) (d : List UInt8) : Decidable (pageP kind d) := by unfold pageP; infer_instance
/-- a page's bytes, ahead of their sum -/
def pre (kind : Int) (d : List UInt8) : List UInt8 := UInt8.ofNat kind.toNat :: UInt8.ofNat d.length :: 0 :: 0 :: (d ++ List.replicate (120 - d.length) 0)
theorem pre_length (kind : Int) (d : List UInt8) (h : d.length ≤ 120) : (pre kind d).length = 124 := by simp [pre]; omega
def layB (kind : Int) (d : List UInt8) (n : Nat) : List Sec := secsOf n (Crc.lay (pre kind d))
theorem lay_len (l : List UInt8) : (Crc.lay l).length = l.length + 4 := by simp [Crc.lay, Crc.bytes]
theorem layB_ok (kind : Int) (d : List UInt8) (n : Nat) (h : d.length ≤ 120) : (layB kind d n).length = 4 ∧ Len32 (layB kind d n) := secsOf_ok _ _ (by rw [lay_len, pre_length _ _ h])
theorem zeroB_ok : zeroB.length = 4 ∧ Len32 zeroB := ⟨rfl, fun s hs => by rw [List.eq_of_mem_replicate hs]; rfl⟩
theorem zeroB_cells : blkC zeroB = (List.replicate 4 (.int .u64 0 :: List.replicate 32 (.int .u8 0))).flatten := by
  simp only [zeroB, blkC, List.replicate_succ, List.replicate_zero, List.flatMap_cons, List.flatMap_nil, List.flatten_cons, List.flatten_nil]
  rfl
/-- is a block's form that of a page? (all: its bytes) -/
def formP (all : List UInt8) : Prop := (all.getD 1 0).toNat ≤ 120 ∧ 1 ≤ (all.getD 0 0).toNat ∧ (all.getD 0 0).toNat ≤ 4 ∧ all.getD 2 0 = 0 ∧ all.getD 3 0 = 0 ∧ ∀ i, 4 + (all.getD 1 0).toNat ≤ i → i < 124 → all.getD i 0 = 0
theorem formP_pre (kind : Int) (d c : List UInt8) (h : pageP kind d) : formP (pre kind d ++ c) ∧ ((pre kind d ++ c).getD 1 0).toNat = d.length ∧ (((pre kind d ++ c).getD 0 0).toNat : Int) = kind ∧ ((pre kind d ++ c).drop 4).take d.length = d := by
  obtain ⟨h1, h2, h3⟩ := h
  have e0 : ((pre kind d ++ c).getD 0 0).toNat = kind.toNat := by
    show (UInt8.ofNat kind.toNat).toNat = _
    rw [UInt8.toNat_ofNat']; omega
  have e1 : ((pre kind d ++ c).getD 1 0).toNat = d.length := by
    show (UInt8.ofNat d.length).toNat = _
    rw [UInt8.toNat_ofNat']; omega
  refine ⟨⟨by omega, by omega, by omega, rfl, rfl, fun i hi hlt => ?_⟩, e1, by omega, ?_⟩
  · rw [e1] at hi
    obtain ⟨j, rfl⟩ : ∃ j, i = j + 4 := ⟨i - 4, by omega⟩
    have : (pre kind d ++ c).getD (j + 4) 0 = (d ++ List.replicate (120 - d.length) 0 ++ c).getD j 0 := rfl
    rw [this, List.getD_eq_getElem?_getD, List.append_assoc, List.getElem?_append_right (by omega), List.getElem?_append_left (by simp; omega), List.getElem?_replicate, if_pos (by omega)]; rfl
  · show (d ++ List.replicate (120 - d.length) 0 ++ c).take d.length = d
    rw [List.append_assoc, List.take_left' rfl]
theorem pre_of_form (p : List UInt8) (c : List UInt8) (hp : p.length = 124) (h : formP (p ++ c)) : pre ((p ++ c).getD 0 0).toNat (((p ++ c).drop 4).take ((p ++ c).getD 1 0).toNat) = p := by
  match p, hp with
  | k :: n :: x :: y :: r, hp =>
    have hr : r.length = 120 := by simpa using hp
    obtain ⟨h1, h2, h3, h4, h5, h6⟩ := h
    have e0 : (k :: n :: x :: y :: r ++ c).getD 0 0 = k := rfl
    have e1 : (k :: n :: x :: y :: r ++ c).getD 1 0 = n := rfl
    have e2 : x = 0 := h4
    have e3 : y = 0 := h5
    have ed : (k :: n :: x :: y :: r ++ c).drop 4 = r ++ c := rfl
    subst e2; subst e3
    replace h1 : n.toNat ≤ 120 := h1
    replace h6 : ∀ i, 4 + n.toNat ≤ i → i < 124 → (k :: n :: 0 :: 0 :: r ++ c).getD i 0 = 0 := h6
    rw [e0, e1, ed]
    have ht : (r ++ c).take n.toNat = r.take n.toNat := List.take_append_of_le_length (by omega)
    have hl : (r.take n.toNat).length = n.toNat := by rw [List.length_take]; omega
    rw [ht]
    unfold pre
    rw [hl]
    have hz : r = r.take n.toNat ++ List.replicate (120 - n.toNat) 0 := by
      apply List.ext_getElem?
      intro j
      by_cases hj : j < n.toNat
      · rw [List.getElem?_append_left (by omega), List.getElem?_take_of_lt hj]
      · rw [List.getElem?_append_right (by omega), hl, List.getElem?_replicate]
        by_cases hj2 : j < 120
        · rw [if_pos (by omega)]
          have := h6 (j + 4) (by omega) (by omega)
          have e : (k :: n :: 0 :: 0 :: r ++ c).getD (j + 4) 0 = (r ++ c).getD j 0 := rfl
          rw [e, List.getD_eq_getElem?_getD, List.getElem?_append_left (by omega), List.getElem?_eq_getElem (by omega)] at this
          rw [List.getElem?_eq_getElem (by omega)]
          simpa using this
        · rw [if_neg (by omega), List.getElem?_eq_none (by omega)]
    rw [← hz]
    have q1 : UInt8.ofNat (Int.toNat (k.toNat : Int)) = k := by simp
    have q2 : UInt8.ofNat n.toNat = n := by simp
    rw [q1, q2]
/-- bytes that hold are a page's bytes with their sum -/
theorem split_hold (all : List UInt8) (hl : all.length = 128) (hh : Crc.sum all = 0#32) : ∃ p, p.length = 124 ∧ all = p ++ Crc.bytes (Crc.sum p) ∧ all = Crc.lay p := by
  have e := (List.take_append_drop 124 all).symm
  have hp : (all.take 124).length = 124 := by simp [hl]
  have hd : (all.drop 124).length = 4 := by simp [hl]
  generalize all.take 124 = p at e hp
  generalize all.drop 124 = q at e hd
  match q, hd with
  | [a, b, c, d], _ =>
    rw [e] at hh
    have := (Crc.holds_iff p a b c d).1 hh
    exact ⟨p, hp, by rw [this]; exact e, by rw [Crc.lay, this]; exact e⟩
theorem lay_again (b : List Sec) (h4 : b.length = 4) (hl : Len32 b) (hs : ∀ s ∈ b, s.1 = st0 b) (hh : Crc.sum (bytesB b) = 0#32) (hf : formP (bytesB b)) :
    pageP ((bytesB b).getD 0 0).toNat (((bytesB b).drop 4).take ((bytesB b).getD 1 0).toNat) ∧ layB ((bytesB b).getD 0 0).toNat (((bytesB b).drop 4).take ((bytesB b).getD 1 0).toNat) (st0 b) = b := by
  have h128 : (bytesB b).length = 128 := by rw [bytesB_length b hl, h4]
  obtain ⟨p, hp, e1, e2⟩ := split_hold _ h128 hh
  constructor
  · obtain ⟨h1, h2, h3, _⟩ := hf
    refine ⟨by omega, by omega, ?_⟩
    rw [List.length_take]; omega
  · have hpre := pre_of_form p (Crc.bytes (Crc.sum p)) hp (by rw [← e1]; exact hf)
    rw [← e1] at hpre
    rw [layB, hpre, ← e2, secsOf_self b h4 hl hs]
theorem form_of_lay (b : List Sec) (_h4 : b.length = 4) (_hl : Len32 b) (kind : Int) (d : List UInt8) (n : Nat) (hp : pageP kind d) (h : layB kind d n = b) :
    formP (bytesB b) ∧ Crc.sum (bytesB b) = 0#32 ∧ ((bytesB b).getD 1 0).toNat = d.length ∧ (((bytesB b).getD 0 0).toNat : Int) = kind ∧ ((bytesB b).drop 4).take d.length = d ∧ ∀ s ∈ b, s.1 = n := by
  have hb : bytesB b = pre kind d ++ Crc.bytes (Crc.sum (pre kind d)) := by
    rw [← h, layB, secsOf_bytes _ _ (by rw [lay_len, pre_length _ _ hp.2.2])]; rfl
  obtain ⟨h1, h2, h3, h5⟩ := formP_pre kind d (Crc.bytes (Crc.sum (pre kind d))) hp
  rw [← hb] at h1 h2 h3 h5
  refine ⟨h1, ?_, h2, h3, h5, ?_⟩
  · rw [hb]; exact Crc.lay_sum _
  · intro s hs
    rw [← h] at hs
    simp only [layB, secsOf, List.mem_cons, List.not_mem_nil, or_false] at hs
    rcases hs with rfl | rfl | rfl | rfl <;> rfl
theorem stampB_all {b : List Sec} (h : stampB b = true) : stampP (st0 b) ∧ ∀ s ∈ b, s.1 = st0 b := by
  simp only [stampB, Bool.and_eq_true, decide_eq_true_eq, List.all_eq_true, beq_iff_eq] at h
  exact h
open Classical in
/-- what is read of a block -/
noncomputable def readR (b : List Sec) : (Int × List UInt8) × Nat × Int :=
  if stampB b = true then
    if Crc.sum (bytesB b) = 0#32 then
      if formP (bytesB b) then (((((bytesB b).getD 0 0).toNat : Int), ((bytesB b).drop 4).take ((bytesB b).getD 1 0).toNat), st0 b, 0) else ((0, []), 0, 7)
    else ((0, []), 0, 271)
  else ((0, []), 0, 270)
theorem read_lay (kind : Int) (d : List UInt8) (n : Nat) (hp : pageP kind d) (hn : stampP n) : readR (layB kind d n) = ((kind, d), n, 0) := by
  have hk := layB_ok kind d n hp.2.2
  obtain ⟨h1, h2, h3, h5, h6, h7⟩ := form_of_lay _ hk.1 hk.2 kind d n hp rfl
  have hst : st0 (layB kind d n) = n := rfl
  have hs : stampB (layB kind d n) = true := by
    simp only [stampB, Bool.and_eq_true, decide_eq_true_eq, List.all_eq_true, beq_iff_eq, hst]
    exact ⟨hn, h7⟩
  rw [readR, if_pos hs, if_pos h2, if_pos h1, h3, h5, h6, hst]
end Pg
end
section
/-
  PAGES: the functions that look at a page, and bytes.Equal, bytes.Clone.
-/
namespace Go.Proofs.Ytgfmpkcgkjpgnaa
open Go.ChangeShapes Go.WideShapes Go.ChangeAt Go.RowKit Agg Pg

theorem fo_Page_0 : Agg.fieldOff Try.prog 101 0 = some 0 := by kernel_rfl
theorem fo_Page_1 : Agg.fieldOff Try.prog 101 1 = some 1 := by kernel_rfl
theorem fo_Sec_0 : Agg.fieldOff Try.prog 62 0 = some 0 := by kernel_rfl
theorem fo_Sec_1 : Agg.fieldOff Try.prog 62 1 = some 1 := by kernel_rfl
theorem stampIs_any (n : Nat) (w : World) (r : Bool) (hr : decide (stampP n) = r) :
    Calls Try.prog 84 #[.int .u64 (n : Int)] w fun e w' => e = .returned (.bool r) ∧ Below w.heap.size w w' := by
  by_cases h1 : 1 ≤ n
  · by_cases h2 : n ≤ 4611686018427387904
    · have HR : Hid (r = true) := by show _ = _; rw [← hr]; exact decide_eq_true ⟨h1, h2⟩
      have q1 : (n : Int) ≥ 1 := by omega
      have q2 : (n : Int) ≤ 4611686018427387904 := by omega
      clear hr h1 h2
      have HB := Lib.hid (Below.refl w.heap.size w)
      go_enter Try.func84, Try.ntmps84
      go_wp2_with fail
      go_ret
      exact ⟨by rw [HR.out]; rfl, HB.out⟩
    · have HR : Hid (r = false) := by show _ = _; rw [← hr]; exact decide_eq_false (fun h => h2 h.2)
      have q1 : (n : Int) ≥ 1 := by omega
      have q2 : ¬ (n : Int) ≤ 4611686018427387904 := by omega
      clear hr h1 h2
      have HB := Lib.hid (Below.refl w.heap.size w)
      go_enter Try.func84, Try.ntmps84
      go_wp2_with fail
      go_ret
      exact ⟨by rw [HR.out]; rfl, HB.out⟩
  · have HR : Hid (r = false) := by show _ = _; rw [← hr]; exact decide_eq_false (fun h => h1 h.1)
    have q1 : ¬ (n : Int) ≥ 1 := by omega
    clear hr h1
    have HB := Lib.hid (Below.refl w.heap.size w)
    go_enter Try.func84, Try.ntmps84
    go_wp2_with fail
    go_ret
    exact ⟨by rw [HR.out]; rfl, HB.out⟩
/-- a page's cells -/
theorem check_any (kind : Int) (d : List UInt8) (dv : Value) (w : World) (hd : Bytes w dv d) (er : Int) (he : (if pageP kind d then 0 else 2) = er) :
    Calls Try.prog 83 #[.agg #[.int .i64 kind, dv]] w fun e w' => e = .returned (.int .i64 er) ∧ Below w.heap.size w w' := by
  obtain ⟨x, cap, rfl, hc, hm⟩ := SlR.shape hd
  have hc3 : cap ≤ 9223372036854775807 := by unfold maxLen at hm; omega
  clear hd hm
  by_cases h1 : kind < 1
  · have HR : Hid (er = 2) := by show _ = _; rw [← he]; exact if_neg (fun h => by have := h.1; omega)
    clear he
    have HB := Lib.hid (Below.refl w.heap.size w)
    go_enter Try.func83, Try.ntmps83
    go_wp2_with fail
    go_ret
    exact ⟨by rw [HR.out]; rfl, bel_alloc HB.out _⟩
  · by_cases h2 : kind > 4
    · have HR : Hid (er = 2) := by show _ = _; rw [← he]; exact if_neg (fun h => by have := h.2.1; omega)
      clear he
      have HB := Lib.hid (Below.refl w.heap.size w)
      go_enter Try.func83, Try.ntmps83
      go_wp2_with fail
      go_ret
      exact ⟨by rw [HR.out]; rfl, bel_alloc HB.out _⟩
    · by_cases h3 : (d.length : Int) > 120
      · have HR : Hid (er = 2) := by show _ = _; rw [← he]; exact if_neg (fun h => by have := h.2.2; omega)
        clear he
        have HB := Lib.hid (Below.refl w.heap.size w)
        go_enter Try.func83, Try.ntmps83
        go_wp2_with fail
        go_ret
        exact ⟨by rw [HR.out]; rfl, bel_alloc HB.out _⟩
      · have HR : Hid (er = 0) := by show _ = _; rw [← he]; exact if_pos ⟨by omega, by omega, by omega⟩
        clear he
        have HB := Lib.hid (Below.refl w.heap.size w)
        go_enter Try.func83, Try.ntmps83
        go_wp2_with fail
        go_ret
        exact ⟨by rw [HR.out]; rfl, bel_alloc HB.out _⟩
/-- bytes, as text -/
def strB (l : List UInt8) : ByteArray := ⟨l.toArray⟩
theorem strB_inj (l m : List UInt8) : ((strB l).toList == (strB m).toList) = decide (l = m) := by
  simp only [ByteArray.toList_eq, strB]
  rw [Bool.eq_iff_iff]
  simp
theorem push_all : ∀ (l : List UInt8) (a : ByteArray), (l.map fun c => ((c.toNat : Nat) : Int)).foldl (fun r n => r.push (UInt8.ofNat n.toNat)) a = ⟨a.data ++ l.toArray⟩ := by
  intro l
  induction l with
  | nil => intro a; simp
  | cons c r ih =>
    intro a
    rw [List.map_cons, List.foldl_cons, ih]
    simp [ByteArray.push]
theorem conv_str {l : List UInt8} {v : Value} {w : World} (h : Bytes w v l) : (convert 39 9 v).run Try.prog w = .ok (.string (strB l)) w := by
  rcases SlR.shape h with ⟨x, cap, rfl, _, _⟩
  rw [run_convert_bytes_string w 39 9 5 x l.length cap Try.underlying39 Try.underlying5 Try.underlying9]
  rcases h.2 with ⟨h1, h2⟩ | ⟨y, cap', h1, _, _, h5⟩
  · simp only [Value.slice.injEq] at h1
    obtain ⟨rfl, _, rfl⟩ := h1
    obtain rfl : l = [] := List.eq_nil_of_length_eq_zero h2
    rfl
  · simp only [Value.slice.injEq, true_and] at h1
    obtain ⟨rfl, rfl⟩ := h1
    have hl := run_loadCells_list (P := Try.prog) w y (bv l) h5
    rw [bv_length] at hl
    have := run_bytesToString (P := Try.prog) w y l.length cap (l.map fun c => ((c.toNat : Nat) : Int)) (by rw [hl]; simp [bv])
    rw [this, push_all]
    simp [strB, ByteArray.empty, ByteArray.emptyWithCapacity]
    rfl
theorem bytes_take {w : World} {x : Option Addr} {cap : Nat} {l : List UInt8} (h : Bytes w (.slice x l.length cap) l) (k : Nat) (hk : k ≤ l.length) : Bytes w (.slice x k cap) (l.take k) := by
  have := SlR.take h k hk
  rw [Nat.mul_one, ← bv_take] at this
  show SlR _ _ _ _ _
  rw [show (l.take k).length = k by rw [List.length_take]; omega]
  exact this
set_option maxRecDepth 100000 in
theorem bClone_any (l : List UInt8) (v : Value) (w : World) (hv : Bytes w v l) (hn : l.length ≤ 1000000) :
    Calls Try.prog 76 #[v] w fun e w' => ∃ u, e = .returned u ∧ w'.ownsRow w.heap.size 5 1 u l.length (bv l) ∧ Below w.heap.size w w' := by
  rcases hv.2 with ⟨rfl, h0⟩ | ⟨x, cap, rfl, hc1, hc2, h5⟩
  · have hl : l = [] := List.eq_nil_of_length_eq_zero h0
    subst hl
    have he : ∀ w : World, (binOp .eql 39 (.slice none 0 0) (.slice none 0 0)).run Try.prog w = .ok (.bool true) w := fun _ => rfl
    clear hv h0
    have HB := Lib.hid (Below.refl w.heap.size w)
    go_enter Try.func76, Try.ntmps76
    go_wp2_with fail
    go_ret
    exact ⟨_, rfl, World.ownsRow_nil _ _ _ _, HB.out⟩
  · have hc3 : cap ≤ 9223372036854775807 := by unfold maxLen at hc2; omega
    have hs := Lib.hid (SlR.keep hv ((Below.refl _ w).alloc (Nat.le_refl _) (.cells #[] 5)))
    have hown := Lib.hid (World.ownsRow_lit (e := 5) (size := 1) (base := w.heap.size) w #[] 0 (Nat.le_refl _) (by decide) rfl)
    clear hv h5 hc1 hc2
    have he : ∀ w : World, (binOp .eql 39 (.slice (some x) l.length cap) (.slice none 0 0)).run Try.prog w = .ok (.bool false) w := fun _ => rfl
    have HB := Lib.hid (Below.refl w.heap.size w)
    go_enter Try.func76, Try.ntmps76
    go_wp2_with (refine Agg.append ti25 _ _ rfl rfl w.heap.size (v := .slice (some ⟨w.heap.size, 0, none⟩) 0 0) rfl hown.out rfl hs.out (bv_one l) (by unfold maxLen; omega) (by omega) (by simp) ?_; intro v' w' ho hg hnil; simp only [Act.put, List.setIfInBounds_toArray, List.set_cons_succ, List.set_cons_zero])
    go_ret
    refine ⟨v', rfl, ?_, ?_⟩
    · simpa using ho
    · exact ((Below.refl _ w).alloc (Nat.le_refl _) _).trans ((grown_below hg (B := w.heap.size) (by simp) (by simp [Value.ownBlock])))
end Go.Proofs.Ytgfmpkcgkjpgnaa
end
section
/-
  PAGES: own, and the document's Right, Stamped, Same.
-/
namespace Go.Proofs.Ytgfmpkcgkjpgnaa
open Go.ChangeShapes Go.WideShapes Go.ChangeAt Go.RowKit Agg Pg

theorem stamped_any (n : Nat) (w : World) (r : Bool) (hr : decide (stampP n) = r) :
    Calls Try.prog 48 #[.int .u64 (n : Int)] w fun e w' => e = .returned (.bool r) ∧ Below w.heap.size w w' := by
  by_cases h1 : 1 ≤ n
  · by_cases h2 : n ≤ 4611686018427387904
    · have HR : Hid (r = true) := by show _ = _; rw [← hr]; exact decide_eq_true ⟨h1, h2⟩
      have q1 : (n : Int) ≥ 1 := by omega
      have q2 : (n : Int) ≤ 4611686018427387904 := by omega
      clear hr h1 h2
      have HB := Lib.hid (Below.refl w.heap.size w)
      go_enter Try.func48, Try.ntmps48
      go_wp2_with fail
      go_ret
      exact ⟨by rw [HR.out]; rfl, HB.out⟩
    · have HR : Hid (r = false) := by show _ = _; rw [← hr]; exact decide_eq_false (fun h => h2 h.2)
      have q1 : (n : Int) ≥ 1 := by omega
      have q2 : ¬ (n : Int) ≤ 4611686018427387904 := by omega
      clear hr h1 h2
      have HB := Lib.hid (Below.refl w.heap.size w)
      go_enter Try.func48, Try.ntmps48
      go_wp2_with fail
      go_ret
      exact ⟨by rw [HR.out]; rfl, HB.out⟩
  · have HR : Hid (r = false) := by show _ = _; rw [← hr]; exact decide_eq_false (fun h => h1 h.1)
    have q1 : ¬ (n : Int) ≥ 1 := by omega
    clear hr h1
    have HB := Lib.hid (Below.refl w.heap.size w)
    go_enter Try.func48, Try.ntmps48
    go_wp2_with fail
    go_ret
    exact ⟨by rw [HR.out]; rfl, HB.out⟩
end Go.Proofs.Ytgfmpkcgkjpgnaa
end
section
/-
  PAGES: the document's Same; a block's stamp, and its bytes.
-/
namespace Go.Proofs.Ytgfmpkcgkjpgnaa
open Go.ChangeShapes Go.WideShapes Go.ChangeAt Go.RowKit Agg Pg

theorem aiB : AI Try.prog 64 62 4 33 := ⟨by kernel_rfl, by kernel_rfl⟩
theorem aiD : AI Try.prog 60 5 32 1 := ⟨by kernel_rfl, by kernel_rfl⟩
/-- the closure of Stamp: is a sector's stamp the first one? -/
theorem clos_any (s : Sec) (_h : s.2.length = 32) (g n : Nat) (w : World) (hg : Blk w g 42 [.int .u64 (n : Int)]) (r : Bool) (hr : (s.1 == n) = r) :
    Calls Try.prog 89 #[.agg (secC s).toArray, .pointer (some ⟨g, 0, none⟩)] w fun e w' => e = .returned (.bool r) ∧ Below w.heap.size w w' := by
  have HG := Lib.hid hg
  have hb : ((s.1 : Int) == (n : Int)) = r := by
    rw [← hr, Bool.eq_iff_iff]
    simp only [beq_iff_eq]; omega
  have hc := (hg.al (.cells (secC s).toArray 62)).cell 0
  have hx : (w.alloc (.cells (secC s).toArray 62)).cell? ⟨w.heap.size, 0, none⟩ = some (.int .u64 (s.1 : Int)) := by
    rw [(Blk.new w 62 (secC s).toArray).cell 0]; rfl
  simp only [List.getElem?_cons_zero] at hc
  have hg1 := hg.lt
  clear hg hr
  have HB := Lib.hid (Below.refl w.heap.size w)
  go_enter Try.func89, Try.ntmps89
  go_wp2_with fail
  go_ret
  exact ⟨by rw [← hb]; rfl, bel_alloc HB.out _⟩
end Go.Proofs.Ytgfmpkcgkjpgnaa
end
section
/-
  PAGES: a block's stamp.
-/
namespace Go.Proofs.Ytgfmpkcgkjpgnaa
open Go.ChangeShapes Go.WideShapes Go.ChangeAt Go.RowKit Agg Pg

/-- a sector of no bytes -/
def sec0 : List Value := secC (0, List.replicate 32 0)
theorem sec0_size : sec0.toArray.size = 33 := by simp [sec0, secC, bv_length]
theorem blk_sec {w : World} {g : Nat} {t : TypeId} {b : List Sec} {r : List Value} (H : Blk w g t (blkC b ++ r)) (hl : Len32 b) (k : Nat) (hk : k < b.length) (i : Nat) (v : Value) (hv : (secC b[k])[i]? = some v) : w.cell? ⟨g, k * 33 + i, none⟩ = some v := by
  have h1 : i < 33 := by
    have := (List.getElem?_eq_some_iff.1 hv).1
    rwa [secC_length _ (hl _ (List.getElem_mem hk))] at this
  rw [H.cell, blkC_cell b hl k hk r i h1, hv]
theorem all_take_succ (b : List Sec) (p : Sec → Bool) (k : Nat) (h : k < b.length) : (b.take (k + 1)).all p = ((b.take k).all p && p b[k]) := by
  rw [List.take_succ_eq_append_getElem h, List.all_append]; simp
set_option maxHeartbeats 1000000 in
theorem every_any (b : List Sec) (h4 : b.length = 4) (hl : Len32 b) (g h n : Nat) (w : World) (hg : Blk w g 64 (blkC b)) (hh : Blk w h 42 [.int .u64 (n : Int)]) (r : Bool) (hr : (b.all fun s => s.1 == n) = r) :
    Calls Try.prog 88 #[.slice (some ⟨g, 0, none⟩) 4 4, .func (.func 89) #[] #[.pointer (some ⟨h, 0, none⟩)]] w fun e w' => e = .returned (.bool r) ∧ Below w.heap.size w w' := by
  have HG := Lib.hid hg
  have HH := Lib.hid hh
  have HR := Lib.hid hr
  have H4 := Lib.hid h4
  have HL := Lib.hid hl
  clear hg hh hr h4 hl
  have HB := Lib.hid (Below.refl w.heap.size w)
  go_enter Try.func88, Try.ntmps88
  go_wp2_with fail
  go_loopw [9] (fun i wr => ∃ k : Nat, k ≤ 4 ∧ i = .int .i64 k ∧ Below w.heap.size w wr ∧ (b.take k).all (fun s => s.1 == n) = true) (fun i _ => 4 - (intOf i).toNat)
  case atStart => exact ⟨0, by omega, rfl, HB.out, rfl⟩
  case round =>
    obtain ⟨k, hk, rfl, hb, htk⟩ := hrel
    replace HB := Lib.hid hb
    have HT := Lib.hid htk
    have HG2 := Lib.hid (HG.out.keep hb)
    have HH2 := Lib.hid (HH.out.keep hb)
    clear hb htk
    by_cases hlt : k < 4
    · have hkb : k < b.length := by rw [H4.out]; exact hlt
      have hc := blk_sec (r := []) (by rw [List.append_nil]; exact HG2.out) HL.out k hkb
      have h32 := HL.out _ (List.getElem_mem hkb)
      have h33 := secC_length _ h32
      have h1 := secC_one b[k]
      have HS := Lib.hid (all_take_succ b (fun s => s.1 == n) k hkb)
      have HI : Hid (b[k] ∈ b) := Lib.hid (List.getElem_mem hkb)
      generalize b[k] = s at *
      go_wp2_with (first
        | (refine Agg.gLoad 33 (secC s) rfl rfl rfl (by decide +kernel) h33 hc ?_; simp only [Act.put, List.setIfInBounds_toArray, List.set_cons_succ, List.set_cons_zero])
        | (refine Agg.allocRow 62 sec0.toArray rfl rfl (by kernel_rfl) ?_; simp only [Act.put, List.setIfInBounds_toArray, List.set_cons_succ, List.set_cons_zero])
        | (refine Agg.gStoreNew 33 (secC s) rfl rfl rfl rfl rfl rfl (by decide +kernel) h33 sec0_size h1 ?_; simp only [Act.put])
        | (refine Agg.gLoadB 33 (Blk.new _ _ (secC s).toArray) h33 rfl rfl rfl (by decide +kernel) ?_; simp only [Act.put, List.setIfInBounds_toArray, List.set_cons_succ, List.set_cons_zero]))
      clear hc h1
      refine Agg.calls_at fun w11 hw11 => ?_
      have hb : Below wr.heap.size wr w11 := by rw [hw11.out]; repeat (first | exact Below.refl _ _ | refine Agg.bel_drew ?_ | refine Agg.bel_alloc ?_ _)
      replace HB := Lib.hid (HB.out.trans (hb.mono HB.out.size))
      replace HG2 := Lib.hid (HG2.out.keep hb)
      replace HH2 := Lib.hid (HH2.out.keep hb)
      clear hb
      clear hw11
      by_cases hq : s.1 = n
      · have hqb : (s.1 == n) = true := by simp [hq]
        have HQ := Lib.hid hqb
        refine (clos_any s h32 h n w11 HH2.out true hqb).mono ?_
        rintro e w12 ⟨rfl, hb⟩
        replace HB := Lib.hid (HB.out.trans (hb.mono HB.out.size))
        replace HG2 := Lib.hid (HG2.out.keep hb)
        replace HH2 := Lib.hid (HH2.out.keep hb)
        clear hb
        clear hqb hq h32 h33
        go_wp2_with fail
        go_roundw
        case rel => exact ⟨k + 1, by omega, by go_num, HB.out, by rw [HS.out, HT.out, HQ.out]; rfl⟩
        case measure => simp [intOf]; omega
      · have hqb : (s.1 == n) = false := by simpa using hq
        have HF : Hid (r = false) := by
          show _ = _
          rw [← HR.out, Bool.eq_false_iff]
          intro hall
          rw [List.all_eq_true] at hall
          have := hall s HI.out
          rw [hqb] at this; cases this
        refine (clos_any s h32 h n w11 HH2.out false hqb).mono ?_
        rintro e wz ⟨rfl, hb⟩
        replace HB := Lib.hid (HB.out.trans (hb.mono HB.out.size))
        clear hb hqb hq h32 h33
        go_wp2_with fail
        go_ret
        exact ⟨by rw [HF.out]; rfl, HB.out⟩
    · obtain rfl : k = 4 := by omega
      have HF : Hid (r = true) := by
        show _ = _
        have h1 := HT.out
        rw [List.take_of_length_le (by rw [H4.out]; exact Nat.le_refl _)] at h1
        rw [← HR.out, h1]
      go_wp2_with fail
      go_ret
      exact ⟨by rw [HF.out]; rfl, HB.out⟩
/-- a box's world -/
theorem st0_get {b : List Sec} (h : 0 < b.length) : st0 b = b[0].1 := by
  cases b with
  | nil => simp at h
  | cons s r => rfl
set_option maxHeartbeats 1000000 in
theorem stamp_any (b : List Sec) (hb : BOk b) (w : World) (q : Bool) (hq : stampB b = q) :
    Calls Try.prog 73 #[.agg (blkC b).toArray] w fun e w' => e = .returned (.tuple #[.int .u64 ((if q then st0 b else 0 : Nat) : Int), .bool q]) ∧ Below w.heap.size w w' := by
  have h4 := hb.1
  have hl := hb.len
  have hc : (w.alloc (.cells (blkC b).toArray 64)).cell? ⟨w.heap.size, 0, none⟩ = some (.int .u64 (st0 b : Int)) := by
    rw [(Blk.new w 64 (blkC b).toArray).cell 0]
    have := blkC_stamp b hl 0 (by omega) []
    rw [List.append_nil] at this
    rw [st0_get (by omega)]; simpa using this
  have HL := Lib.hid hl
  have H4 := Lib.hid h4
  have hg : Blk (w.alloc (.cells (blkC b).toArray 64)) w.heap.size 64 (blkC b) := Blk.new w 64 (blkC b).toArray
  have HQ : Hid ((decide (stampP (st0 b)) && b.all fun s => s.1 == st0 b) = q) := Lib.hid hq
  have HG := Lib.hid hg
  clear hb h4 hl hg hq
  generalize st0 b = n at *
  have HB := Lib.hid (Below.refl w.heap.size w)
  go_enter Try.func73, Try.ntmps73
  go_wp2_with fail
  refine Agg.calls_at fun w1 hw1 => ?_
  have hb : Below w.heap.size w w1 := by rw [hw1.out]; repeat (first | exact Below.refl _ _ | refine Agg.bel_drew ?_ | refine Agg.bel_alloc ?_ _)
  replace HB := Lib.hid (HB.out.trans (hb.mono HB.out.size))
  clear hb
  have HGB : Hid (Blk w1 w.heap.size 64 (blkC b)) := by show Blk _ _ _ _; rw [hw1.out]; exact HG.out.al _
  have HN : Hid (Blk w1 (w.heap.size + 1) 42 [.int .u64 (n : Int)]) := by show Blk _ _ _ _; rw [hw1.out]; exact Blk.newAt (w.alloc _) 42 #[.int .u64 (n : Int)] _ (by simp)
  clear hw1 HG hc
  by_cases hp : stampP n
  · have hd : decide (stampP n) = true := by simp [hp]
    have HE : Hid ((b.all fun s => s.1 == n) = q) := by show _ = _; rw [← HQ.out, hd]; simp
    refine (stampIs_any n w1 true hd).mono ?_
    rintro e w2 ⟨rfl, hb⟩
    replace HB := Lib.hid (HB.out.trans (hb.mono HB.out.size))
    replace HGB := Lib.hid (HGB.out.keep hb)
    replace HN := Lib.hid (HN.out.keep hb)
    clear hb
    clear hd hp
    have xHN_0 := HN.out.cell 0
    have lHN := HN.out.lt
    simp only [List.getElem?_cons_zero] at xHN_0
    go_wp2_with fail
    clear xHN_0 lHN
    refine (every_any b H4.out HL.out _ _ n w2 HGB.out HN.out q HE.out).mono ?_
    rintro e w3 ⟨rfl, hb⟩
    replace HB := Lib.hid (HB.out.trans (hb.mono HB.out.size))
    replace HGB := Lib.hid (HGB.out.keep hb)
    replace HN := Lib.hid (HN.out.keep hb)
    clear hb
    by_cases hq : q = true
    · subst hq
      have xx := HN.out.cell 0
      simp only [List.getElem?_cons_zero] at xx
      have lx := HN.out.lt
      go_wp2_with fail
      go_ret2
      exact ⟨rfl, HB.out⟩
    · obtain rfl : q = false := by simpa using hq
      clear hq
      go_wp2_with fail
      go_ret2
      exact ⟨rfl, HB.out⟩
  · have hd : decide (stampP n) = false := by simp [hp]
    obtain rfl : q = false := by rw [← HQ.out, hd]; simp
    refine (stampIs_any n w1 false hd).mono ?_
    rintro e w4 ⟨rfl, hb⟩
    replace HB := Lib.hid (HB.out.trans (hb.mono HB.out.size))
    replace HGB := Lib.hid (HGB.out.keep hb)
    replace HN := Lib.hid (HN.out.keep hb)
    clear hb
    clear hd hp
    go_wp2_with fail
    go_ret2
    exact ⟨rfl, HB.out⟩
end Go.Proofs.Ytgfmpkcgkjpgnaa
end
