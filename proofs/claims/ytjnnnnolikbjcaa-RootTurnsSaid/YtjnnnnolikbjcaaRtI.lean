/-
  PAGES: what arguments of the statements hold: pages, blocks.
-/
import Derived.Test.YtjnnnnolikbjcaaRFpPgH
import Derived.Test.YtjnnnnolikbjcaaGood
import Derived.Test.YtjnnnnolikbjcaaRFpPg4
section
namespace Go.Proofs.Ytjnnnnolikbjcaa
open Go.ChangeShapes Go.WideShapes Go.ChangeAt Go.RowKit Agg Pg

theorem fits_bytes : ∀ (n : Nat) (cs : List Value), Agg.Fits (List.replicate n (some .u8)) cs → ∃ l : List UInt8, l.length = n ∧ cs = bv l
  | 0, cs, h => ⟨[], rfl, h.nil⟩
  | n + 1, cs, h => by
    rw [List.replicate_succ] at h
    obtain ⟨x, r, rfl, ⟨z, rfl, hz⟩, h2⟩ := Agg.Fits.cons h
    obtain ⟨l, hl, rfl⟩ := fits_bytes n r h2
    simp only [Lit.wf, Bool.and_eq_true, IntKind.min, IntKind.max, IntKind.signed, IntKind.bits] at hz
    have hz2 : 0 ≤ z ∧ z ≤ 255 := by simpa using hz
    refine ⟨UInt8.ofNat z.toNat :: l, by simp [hl], ?_⟩
    have e : ((UInt8.ofNat z.toNat).toNat : Int) = z := by rw [UInt8.toNat_ofNat']; omega
    simp only [bv, List.map_cons, e]
theorem fits_secs : ∀ (n : Nat) (cs : List Value), Agg.Fits (List.replicate n ksSec).flatten cs → ∃ b : List Sec, b.length = n ∧ cs = blkC b ∧ ∀ s ∈ b, s.2.length = 32 ∧ s.1 < 18446744073709551616
  | 0, cs, h => ⟨[], rfl, h.nil, fun s hs => by cases hs⟩
  | n + 1, cs, h => by
    rw [List.replicate_succ, List.flatten_cons] at h
    obtain ⟨h1, h2⟩ := Agg.Fits.cut h
    obtain ⟨b, hb, hc, hok⟩ := fits_secs n _ h2
    obtain ⟨x, r, he, ⟨z, rfl, hz⟩, h3⟩ := Agg.Fits.cons h1
    obtain ⟨l, hl, rfl⟩ := fits_bytes 32 r h3
    simp only [Lit.wf, Bool.and_eq_true, IntKind.min, IntKind.max, IntKind.signed, IntKind.bits] at hz
    have hz2 : 0 ≤ z ∧ z ≤ 18446744073709551615 := by simpa using hz
    refine ⟨(z.toNat, l) :: b, by simp [hb], ?_, ?_⟩
    · rw [blkC_cons, ← hc, secC]
      have e : ((z.toNat : Nat) : Int) = z := by omega
      simp only [e]
      rw [← he, List.take_append_drop]
    · intro s hs
      rcases List.mem_cons.1 hs with rfl | h
      · exact ⟨hl, by simp only; omega⟩
      · exact hok s h
theorem good_block {w : World} {fuel : Nat} {cs : List Value} (h : Agg.Good Try.prog w fuel 38 cs) : ∃ b, cs = blkC b ∧ BOk b := by
  have hf := good_fits fuel 5 38 ksBlk cs (by kernel_rfl) h
  obtain ⟨b, h1, h2, h3⟩ := fits_secs 4 cs hf
  exact ⟨b, h2, h1, h3⟩
theorem good_i64 {w : World} {fuel : Nat} {v : Value} (h : Agg.Good Try.prog w fuel 3 [v]) : ∃ z : Int, v = .int .i64 z ∧ -9223372036854775808 ≤ z ∧ z ≤ 9223372036854775807 := by
  have hf := good_fits fuel 1 3 [some .i64] [v] (by kernel_rfl) h
  obtain ⟨x, r, he, ⟨z, rfl, hz⟩, _⟩ := Agg.Fits.cons hf
  simp only [List.cons.injEq] at he
  simp only [Lit.wf, Bool.and_eq_true, decide_eq_true_eq, IntKind.min, IntKind.max, IntKind.signed, IntKind.bits] at hz
  exact ⟨z, he.1, by simpa using hz⟩
set_option maxRecDepth 100000 in
theorem good_page {w : World} {fuel : Nat} {c : Array Value} (h : Agg.Good Try.prog w fuel 92 c.toList) : ∃ (kind : Int) (dv : Value) (d : List UInt8), c = #[.int .i64 kind, dv] ∧ Bytes w dv d ∧ -9223372036854775808 ≤ kind ∧ kind ≤ 9223372036854775807 := by
  cases fuel with
  | zero => exact h.elim
  | succ n =>
    unfold Agg.Good at h
    rw [Try.underlying92] at h
    simp only at h
    obtain ⟨hl, hf⟩ := h
    have h0 : Agg.Good Try.prog w n 3 ((c.toList.drop 0).take (Try.prog.cellsOf 3)) := hf 0 _ rfl
    have h1 : Agg.Good Try.prog w n 57 ((c.toList.drop 1).take (Try.prog.cellsOf 57)) := hf 1 _ rfl
    have e0 : Try.prog.cellsOf 3 = 1 := by kernel_rfl
    have e1 : Try.prog.cellsOf 57 = 1 := by kernel_rfl
    have e2 : Try.prog.cellsOf 92 = 2 := by kernel_rfl
    rw [e0] at h0
    rw [e1] at h1
    rw [e2] at hl
    obtain ⟨l, hcl⟩ : ∃ l, l = c.toList := ⟨_, rfl⟩
    rw [← hcl] at hl h0 h1
    match l, hl with
    | [a, b], _ =>
      obtain ⟨z, rfl, hz1, hz2⟩ := good_i64 h0
      obtain ⟨d, hd, _⟩ := good_bytes Try.underlying57 Try.underlying5 (by kernel_rfl) h1
      exact ⟨z, b, d, (Array.toList_inj.1 hcl).symm, hd, hz1, hz2⟩
theorem good_blks {w : World} {fuel : Nat} {v : Value} (h : Agg.Good Try.prog w fuel 22 [v]) : ∃ l : List (List Sec), Blks w v l ∧ (∀ b ∈ l, BOk b) ∧ l.length ≤ maxLen := by
  obtain ⟨l, h1, h2, h3⟩ := good_sl (α := {b : List Sec // BOk b}) Try.underlying22 (sz := 132) (by kernel_rfl) (fun b => blkC b.1) (fun _ => True) (fun b => bok_cells b.2) (fun f cs hg => by
    obtain ⟨b, h1, h2⟩ := good_block hg
    exact ⟨⟨b, h2⟩, h1, trivial⟩) h
  refine ⟨l.map (·.1), ?_, fun b hb => ?_, by simpa using h3⟩
  · show SlR _ _ _ _ _
    rw [List.length_map, List.flatMap_map]; exact h1
  · obtain ⟨x, _, rfl⟩ := List.mem_map.1 hb
    exact x.2
end Go.Proofs.Ytjnnnnolikbjcaa
end
section
/-
  ROOTS, in plain Lean: which may be, their data, data's root.
-/
namespace Go.Proofs.Ytjnnnnolikbjcaa
open Go.ChangeShapes Go.WideShapes Go.ChangeAt Go.RowKit Agg Pg Dv

/-- a root: its slot, its stamp, the manifest's pages and bytes -/
structure Rt where
  slot : Int
  stamp : Nat
  pages : List Int
  bytes : Int
def rt0 : Rt := ⟨0, 0, [], 0⟩
theorem rt_ext (a b : Rt) : (a.slot = b.slot ∧ a.stamp = b.stamp ∧ a.bytes = b.bytes ∧ a.pages = b.pages) ↔ a = b := by
  obtain ⟨x1, x2, x3, x4⟩ := a
  obtain ⟨y1, y2, y3, y4⟩ := b
  constructor
  · rintro ⟨rfl, rfl, rfl, rfl⟩; rfl
  · intro h; cases h; exact ⟨rfl, rfl, rfl, rfl⟩
instance rtDec : DecidableEq Rt := fun a b => decidable_of_iff _ (rt_ext a b)
/-- the first k pages may be a manifest's -/
def pagesB (L : List Int) (k : Nat) : Bool := (List.range k).all fun i => decide (18 ≤ L.getD i 0) && decide (L.getD i 0 ≤ 255) && !(L.take i).contains (L.getD i 0)
theorem pagesB_zero (L : List Int) : pagesB L 0 = true := rfl
theorem pagesB_succ (L : List Int) (k : Nat) : pagesB L (k + 1) = (pagesB L k && (decide (18 ≤ L.getD k 0) && decide (L.getD k 0 ≤ 255) && !(L.take k).contains (L.getD k 0))) := by
  unfold pagesB; rw [List.range_succ, List.all_append]; simp
theorem pagesB_stop {L : List Int} {k m : Nat} (h : pagesB L k = false) (hk : k ≤ m) : pagesB L m = false := by
  induction m with
  | zero => obtain rfl : k = 0 := by omega
            exact h
  | succ m ih =>
    rcases Nat.lt_or_ge m k with h1 | h1
    · obtain rfl : k = m + 1 := by omega
      exact h
    · rw [pagesB_succ, ih h1]; rfl
/-- may a root be? -/
def rightB (r : Rt) : Bool := (decide (r.slot = 0) || decide (r.slot = 1)) && decide (1 ≤ r.stamp) && decide (r.stamp ≤ 4611686018427387904) && decide (1 ≤ r.pages.length) && decide (r.pages.length ≤ 57) && decide (120 * ((r.pages.length : Int) - 1) < r.bytes) && decide (r.bytes ≤ 120 * (r.pages.length : Int)) && pagesB r.pages r.pages.length
structure RightR (r : Rt) : Prop where
  slot : r.slot = 0 ∨ r.slot = 1
  stamp : stampP r.stamp
  n1 : 1 ≤ r.pages.length
  n57 : r.pages.length ≤ 57
  b1 : 120 * ((r.pages.length : Int) - 1) < r.bytes
  b2 : r.bytes ≤ 120 * (r.pages.length : Int)
  ps : pagesB r.pages r.pages.length = true
theorem right_iff (r : Rt) : rightB r = true ↔ RightR r := by
  unfold rightB
  simp only [Bool.and_eq_true, Bool.or_eq_true, decide_eq_true_eq]
  constructor
  · rintro ⟨⟨⟨⟨⟨⟨⟨a, b⟩, c⟩, d⟩, e⟩, f⟩, g⟩, h⟩; exact ⟨a, ⟨b, c⟩, d, e, f, g, h⟩
  · rintro ⟨a, ⟨b, c⟩, d, e, f, g, h⟩; exact ⟨⟨⟨⟨⟨⟨⟨a, b⟩, c⟩, d⟩, e⟩, f⟩, g⟩, h⟩
theorem RightR.page {r : Rt} (h : RightR r) {x : Int} (hx : x ∈ r.pages) : 18 ≤ x ∧ x ≤ 255 := by
  obtain ⟨i, hi, rfl⟩ := List.getElem_of_mem hx
  have h1 := h.ps
  unfold pagesB at h1
  have h2 := List.all_eq_true.1 h1 i (List.mem_range.2 hi)
  rw [List.getD_eq_getElem?_getD, List.getElem?_eq_getElem hi] at h2
  simp only [Bool.and_eq_true, decide_eq_true_eq] at h2
  exact h2.1
/-- a number's bytes, the highest first -/
def beB (k : Nat) (x : Int) : List UInt8 := (List.range k).map fun j => UInt8.ofNat (x / 2 ^ (8 * (k - 1 - j)) % 256).toNat
theorem beB_len (k : Nat) (x : Int) : (beB k x).length = k := by simp [beB]
/-- the number of bytes -/
def valB (l : List UInt8) : Int := l.foldl (fun n b => n * 256 + (b.toNat : Int)) 0
theorem val_snoc (l : List UInt8) (b : UInt8) : valB (l ++ [b]) = valB l * 256 + b.toNat := by unfold valB; rw [List.foldl_append]; rfl
theorem be2 (x : Int) : beB 2 x = [UInt8.ofNat (x / 256 % 256).toNat, UInt8.ofNat (x % 256).toNat] := by
  simp [beB, List.range, List.range.loop]
theorem be4 (x : Int) : beB 4 x = [UInt8.ofNat (x / 16777216 % 256).toNat, UInt8.ofNat (x / 65536 % 256).toNat, UInt8.ofNat (x / 256 % 256).toNat, UInt8.ofNat (x % 256).toNat] := by
  simp [beB, List.range, List.range.loop]
theorem valB2 (a b : UInt8) : valB [a, b] = (a.toNat : Int) * 256 + b.toNat := by simp [valB]
theorem valB4 (a b c d : UInt8) : valB [a, b, c, d] = (((a.toNat : Int) * 256 + b.toNat) * 256 + c.toNat) * 256 + d.toNat := by simp [valB]
theorem of8 (x : Int) : ((UInt8.ofNat (x % 256).toNat).toNat : Int) = x % 256 := by
  rw [UInt8.toNat_ofNat']; omega
theorem val_be2 {x : Int} (h0 : 0 ≤ x) (h : x < 65536) : valB (beB 2 x) = x := by
  rw [be2, valB2, of8, of8]; omega
theorem val_be4 {x : Int} (h0 : 0 ≤ x) (h : x < 4294967296) : valB (beB 4 x) = x := by
  rw [be4, valB4, of8, of8, of8, of8]; omega
theorem ofN8 {a : UInt8} {x : Int} (h : x = a.toNat) : UInt8.ofNat x.toNat = a := by rw [h, Int.toNat_natCast, UInt8.ofNat_toNat]
theorem be_val2 (a b : UInt8) : beB 2 (valB [a, b]) = [a, b] := by
  have ha := a.toNat_lt
  have hb := b.toNat_lt
  rw [be2, valB2, ofN8 (a := a) (by omega), ofN8 (a := b) (by omega)]
theorem be_val4 (a b c d : UInt8) : beB 4 (valB [a, b, c, d]) = [a, b, c, d] := by
  have ha := a.toNat_lt
  have hb := b.toNat_lt
  have hc := c.toNat_lt
  have hd := d.toNat_lt
  rw [be4, valB4, ofN8 (a := a) (by omega), ofN8 (a := b) (by omega), ofN8 (a := c) (by omega), ofN8 (a := d) (by omega)]
/-- a root's data -/
def dataR (r : Rt) : List UInt8 := (UInt8.ofNat r.pages.length :: r.pages.flatMap (beB 2)) ++ beB 4 r.bytes
theorem flat2_len (L : List Int) : (L.flatMap (beB 2)).length = 2 * L.length := by
  induction L with
  | nil => rfl
  | cons x L ih => rw [List.flatMap_cons, List.length_append, ih, beB_len, List.length_cons]; omega
theorem dataR_len (r : Rt) : (dataR r).length = 5 + 2 * r.pages.length := by
  unfold dataR; rw [List.length_append, List.length_cons, flat2_len, beB_len]; omega
/-- numbers of two bytes each -/
def twos (n : Nat) (l : List UInt8) : List Int := (List.range n).map fun i => valB ((l.drop (2 * i)).take 2)
theorem twos_len (n : Nat) (l : List UInt8) : (twos n l).length = n := by simp [twos]
theorem twos_succ (n : Nat) (a b : UInt8) (l : List UInt8) : twos (n + 1) (a :: b :: l) = valB [a, b] :: twos n l := by
  unfold twos
  rw [List.range_succ_eq_map, List.map_cons, List.map_map]
  refine congrArg (valB [a, b] :: ·) (List.map_congr_left fun i _ => ?_)
  show valB (((a :: b :: l).drop (2 * (i + 1))).take 2) = _
  rw [show 2 * (i + 1) = 2 * i + 1 + 1 by omega]; rfl
theorem twos_be {L : List Int} (h : ∀ x ∈ L, 0 ≤ x ∧ x < 65536) (t : List UInt8) : twos L.length (L.flatMap (beB 2) ++ t) = L := by
  induction L with
  | nil => rfl
  | cons x L ih =>
    have h1 := h x (by simp)
    have h2 := val_be2 h1.1 h1.2
    have e : (x :: L).flatMap (beB 2) ++ t = UInt8.ofNat (x / 256 % 256).toNat :: UInt8.ofNat (x % 256).toNat :: (L.flatMap (beB 2) ++ t) := by rw [List.flatMap_cons, be2]; rfl
    rw [be2] at h2
    rw [e, List.length_cons, twos_succ, ih (fun y hy => h y (by simp [hy])), h2]
theorem be_twos : ∀ (n : Nat) (l : List UInt8), 2 * n ≤ l.length → (twos n l).flatMap (beB 2) = l.take (2 * n) := by
  intro n
  induction n with
  | zero => intro l _; rfl
  | succ n ih =>
    intro l h
    match l, h with
    | a :: b :: l, h =>
      rw [twos_succ, List.flatMap_cons, ih l (by simp at h; omega), be_val2, show 2 * (n + 1) = 2 * n + 1 + 1 by omega]; rfl
/-- the root that data would be -/
def parsed (slot : Int) (st : Nat) (n : Nat) (b : List UInt8) : Rt := ⟨slot, st, twos n (b.drop 1), valB ((b.drop (1 + 2 * n)).take 4)⟩
def b0N (b : List UInt8) : Nat := (b.getD 0 0).toNat
def parseR (slot : Int) (st : Nat) (b : List UInt8) : Option Rt := if b.length = 5 + 2 * b0N b ∧ rightB (parsed slot st (b0N b) b) = true then some (parsed slot st (b0N b) b) else none
theorem len4 {l : List UInt8} (h : l.length = 4) : ∃ a b c d, l = [a, b, c, d] := by
  match l, h with
  | [a, b, c, d], _ => exact ⟨a, b, c, d, rfl⟩
theorem data_parsed {slot : Int} {st : Nat} {b : List UInt8} {n : Nat} (h : b.length = 5 + 2 * n) : dataR (parsed slot st n b) = UInt8.ofNat n :: b.drop 1 := by
  unfold dataR parsed
  obtain ⟨x, y, z, u, e4⟩ := len4 (l := (b.drop (1 + 2 * n)).take 4) (by rw [List.length_take, List.length_drop]; omega)
  simp only [twos_len]
  rw [be_twos _ _ (by rw [List.length_drop]; omega), e4, be_val4, ← e4, List.cons_append, List.take_of_length_le (i := 4) (by rw [List.length_drop]; omega)]
  congr 1
  rw [show b.drop (1 + 2 * n) = (b.drop 1).drop (2 * n) by rw [List.drop_drop]]
  exact List.take_append_drop _ _
theorem cons_b0 {b : List UInt8} (h : 0 < b.length) : UInt8.ofNat (b0N b) :: b.drop 1 = b := by
  match b, h with
  | x :: l, _ => show UInt8.ofNat x.toNat :: l = x :: l; rw [UInt8.ofNat_toNat]
theorem parse_some {slot : Int} {st : Nat} {b : List UInt8} {r : Rt} (h : parseR slot st b = some r) : dataR r = b ∧ RightR r ∧ r.slot = slot ∧ r.stamp = st := by
  unfold parseR at h
  split at h
  · rename_i hh
    injection h with h
    subst h
    exact ⟨by rw [data_parsed hh.1, cons_b0 (by omega)], (right_iff _).1 hh.2, rfl, rfl⟩
  · cases h
theorem b0_data {r : Rt} (h : r.pages.length ≤ 57) : b0N (dataR r) = r.pages.length := by
  show (UInt8.ofNat r.pages.length).toNat = _
  rw [UInt8.toNat_ofNat']; omega
theorem parsed_data {r : Rt} (h : RightR r) : parsed r.slot r.stamp r.pages.length (dataR r) = r := by
  have h57 := h.n57
  have hb1 := h.b1
  have hb2 := h.b2
  have hn1 := h.n1
  refine (rt_ext _ _).1 ⟨rfl, rfl, ?_, ?_⟩
  · show valB (((dataR r).drop (1 + 2 * r.pages.length)).take 4) = _
    unfold dataR
    rw [List.drop_left' (by rw [List.length_cons, flat2_len]; omega), List.take_of_length_le (by rw [beB_len]; omega), val_be4 (by omega) (by omega)]
  · show twos r.pages.length ((dataR r).drop 1) = _
    exact twos_be (fun x hx => by have := h.page hx; omega) _
theorem parse_data {r : Rt} (h : RightR r) : parseR r.slot r.stamp (dataR r) = some r := by
  unfold parseR
  rw [b0_data h.n57, parsed_data h, if_pos ⟨dataR_len r, (right_iff r).2 h⟩]
/-- the document's: as many pages as the data's length says; its own data are those -/
theorem parse_doc (slot : Int) (st : Nat) (b : List UInt8) (n : Nat) (h : b.length = 5 + 2 * n) : (rightB (parsed slot st n b) = true ∧ dataR (parsed slot st n b) = b) ↔ (parseR slot st b = some (parsed slot st n b)) := by
  constructor
  · rintro ⟨h1, h2⟩
    have hr := (right_iff _).1 h1
    have h3 : b0N b = n := by
      rw [← h2, b0_data hr.n57]; exact twos_len _ _
    unfold parseR
    rw [h3, if_pos ⟨h, h1⟩]
  · intro h1
    obtain ⟨h2, h3, _⟩ := parse_some h1
    exact ⟨(right_iff _).2 h3, h2⟩
theorem parse_none (slot : Int) (st : Nat) (b : List UInt8) (n : Nat) (h : b.length = 5 + 2 * n) (hn : ¬(rightB (parsed slot st n b) = true ∧ dataR (parsed slot st n b) = b)) : parseR slot st b = none := by
  cases e : parseR slot st b with
  | none => rfl
  | some r =>
    exfalso
    have e2 := e
    unfold parseR at e
    split at e
    · rename_i hh
      injection e with e
      have h3 : b0N b = n := by have := hh.1; omega
      rw [h3] at e
      rw [← e] at e2
      exact hn ((parse_doc slot st b n h).2 e2)
    · cases e
theorem parse_short (slot : Int) (st : Nat) (b : List UInt8) (h : b.length < 5 ∨ (b.length - 5) % 2 ≠ 0) : parseR slot st b = none := by
  unfold parseR
  rw [if_neg (fun hh => by have := hh.1; omega)]
end Go.Proofs.Ytjnnnnolikbjcaa
end
section
/-
  ROOTS, in plain Lean: which stands in a slot, which holds, what is put.
-/
namespace Go.Proofs.Ytjnnnnolikbjcaa
open Go.ChangeShapes Go.WideShapes Go.ChangeAt Go.RowKit Agg Pg Dv

theorem rreadR_cases (b : List Sec) (hb : BOk b) (k : Int) (d : List UInt8) (n : Nat) (er : Int) (h : readR b = ((k, d), n, er)) : (er = 0 ∧ pageP k d ∧ stampP n ∧ layB k d n = b) ∨ (er ≠ 0 ∧ k = 0 ∧ d = [] ∧ n = 0) := by
  unfold readR at h
  split at h
  · rename_i hs
    split at h
    · rename_i hh
      split at h
      · rename_i hf
        simp only [Prod.mk.injEq] at h
        obtain ⟨⟨rfl, rfl⟩, rfl, rfl⟩ := h
        simp only [stampB, Bool.and_eq_true, decide_eq_true_eq, List.all_eq_true, beq_iff_eq] at hs
        have hl := lay_again b hb.1 hb.len hs.2 hh hf
        exact .inl ⟨rfl, hl.1, hs.1, hl.2⟩
      · simp only [Prod.mk.injEq] at h
        obtain ⟨⟨rfl, rfl⟩, rfl, rfl⟩ := h
        exact .inr ⟨by decide, rfl, rfl, rfl⟩
    · simp only [Prod.mk.injEq] at h
      obtain ⟨⟨rfl, rfl⟩, rfl, rfl⟩ := h
      exact .inr ⟨by decide, rfl, rfl, rfl⟩
  · simp only [Prod.mk.injEq] at h
    obtain ⟨⟨rfl, rfl⟩, rfl, rfl⟩ := h
    exact .inr ⟨by decide, rfl, rfl, rfl⟩
theorem rreadR_two (b : List Sec) (hb : BOk b) : ((readR b).2.2 = 0 ∧ pageP (readR b).1.1 (readR b).1.2 ∧ stampP (readR b).2.1 ∧ layB (readR b).1.1 (readR b).1.2 (readR b).2.1 = b) ∨ ((readR b).2.2 ≠ 0 ∧ (readR b).1.1 = 0 ∧ (readR b).1.2 = [] ∧ (readR b).2.1 = 0) := rreadR_cases b hb _ _ _ _ rfl
theorem rreadP_bok {d : Dev} (h : DGood d) (k : Int) : BOk (readP d k).2 := by
  rw [readP]
  split
  · exact zeroB_bok
  · split
    · exact zeroB_bok
    · split
      · exact zeroB_bok
      · exact saysP_bok h.pages h.cache k
/-- are all pages of a device with n pages? -/
def ofB (n : Nat) (r : Rt) : Bool := r.pages.all fun p => decide (p < (n : Int))
/-- the block of a root -/
def blkR (r : Rt) : List Sec := layB 1 (dataR r) r.stamp
theorem data_120 {r : Rt} (h : RightR r) : (dataR r).length ≤ 120 := by rw [dataR_len]; have := h.n57; omega
theorem blkR_lay {r : Rt} (h : RightR r) : layR 1 (dataR r) r.stamp = (blkR r, 0) := by
  unfold layR blkR
  rw [if_pos ⟨⟨by decide, by decide, data_120 h⟩, h.stamp⟩]
theorem blkR_bok {r : Rt} (h : RightR r) : BOk (blkR r) := by
  have := layR_bok 1 (dataR r) r.stamp
  rw [blkR_lay h] at this
  exact this
/-- the root that a block of a slot holds -/
noncomputable def inB (n : Nat) (slot : Int) (b : List Sec) : Option Rt :=
  if (readR b).2.2 = 0 ∧ (readR b).1.1 = 1 then (parseR slot (readR b).2.1 (readR b).1.2).filter (ofB n) else none
noncomputable def inR (d : Dev) (slot : Int) : Option Rt := inB d.pages.length slot (saysP d.pages d.cache slot)
theorem inB_some {n : Nat} {slot : Int} {b : List Sec} {r : Rt} (hb : BOk b) (h : inB n slot b = some r) : RightR r ∧ r.slot = slot ∧ ofB n r = true ∧ blkR r = b ∧ r.stamp = (readR b).2.1 := by
  unfold inB at h
  split at h
  · rename_i h1
    obtain ⟨h2, h3⟩ := Option.filter_eq_some_iff.1 h
    obtain ⟨a1, a2, a3, a4⟩ := parse_some h2
    refine ⟨a2, a3, h3, ?_, a4⟩
    rcases rreadR_two b hb with ⟨_, _, _, h4⟩ | ⟨h4, _⟩
    · show layB 1 (dataR _) _ = b
      rw [a1, a4]
      have h5 := h4
      rw [show (readR b).1.1 = 1 from h1.2] at h5
      exact h5
    · exact absurd h1.1 h4
  · cases h
theorem inB_blk {n : Nat} {r : Rt} (h : RightR r) (ho : ofB n r = true) : inB n r.slot (blkR r) = some r := by
  unfold inB blkR
  rw [read_lay 1 (dataR r) r.stamp ⟨by decide, by decide, data_120 h⟩ h.stamp, if_pos ⟨rfl, rfl⟩]
  show (parseR r.slot r.stamp (dataR r)).filter (ofB n) = some r
  rw [parse_data h]
  exact Option.filter_eq_some_iff.2 ⟨rfl, ho⟩
/-- the greater of two -/
def bestR : Option Rt → Option Rt → Option Rt
  | some a, some b => if a.stamp < b.stamp then some b else some a
  | some a, none => some a
  | none, o => o
noncomputable def findR (d : Dev) : Option Rt := bestR (inR d 0) (inR d 1)
/-- why nothing is told of a device -/
def whyD (d : Dev) : Int := if rightD d = false then 260 else if d.off then 10 else 0
/-- what of a root comes to be told -/
noncomputable def tellO (e : Int) (d : Dev) (o : Option Rt) : Rt × Int := if whyD d ≠ 0 then (rt0, whyD d) else match o with
  | some r => (r, 0)
  | none => (rt0, e)
/-- a root is put -/
def putRt (d : Dev) (r : Rt) : Int × Dev :=
  if whyD d = 10 then (10, d)
  else if whyD d ≠ 0 then (whyD d, dev0)
  else if rightB r = false ∨ ofB d.pages.length r = false then (330, dev0)
  else if (goesP d (putP d r.slot (blkR r))).1 ≠ 0 then goesP d (putP d r.slot (blkR r))
  else goesP (goesP d (putP d r.slot (blkR r))).2 (flushP (goesP d (putP d r.slot (blkR r))).2)
theorem bestR_two (a b : Rt) : bestR (some a) (some b) = if a.stamp < b.stamp then some b else some a := rfl
theorem bestR_one (a : Rt) : bestR (some a) none = some a := rfl
theorem bestR_no (o : Option Rt) : bestR none o = o := by cases o <;> rfl
theorem bestR_some {a b : Option Rt} {r : Rt} (h : bestR a b = some r) : a = some r ∨ b = some r := by
  cases a with
  | none => rw [bestR_no] at h; exact .inr h
  | some a =>
    cases b with
    | none => rw [bestR_one] at h; exact .inl h
    | some b =>
      rw [bestR_two] at h
      split at h
      · exact .inr h
      · exact .inl h
theorem bestR_le {a b : Option Rt} {r : Rt} (h : bestR a b = some r) : (∀ x, a = some x → x.stamp ≤ r.stamp) ∧ ∀ x, b = some x → x.stamp ≤ r.stamp := by
  cases a with
  | none =>
    rw [bestR_no] at h
    exact ⟨(fun x e => by cases e), (fun x e => by rw [h] at e; injection e with e; rw [e]; exact Nat.le_refl _)⟩
  | some a =>
    cases b with
    | none =>
      rw [bestR_one] at h
      exact ⟨(fun x e => by rw [h] at e; injection e with e; rw [e]; exact Nat.le_refl _), (fun x e => by cases e)⟩
    | some b =>
      rw [bestR_two] at h
      split at h
      · injection h with h
        rw [← h]
        exact ⟨(fun x e => by injection e with e; rw [← e]; omega), (fun x e => by injection e with e; rw [← e]; exact Nat.le_refl _)⟩
      · injection h with h
        rw [← h]
        exact ⟨(fun x e => by injection e with e; rw [← e]; exact Nat.le_refl _), (fun x e => by injection e with e; rw [← e]; omega)⟩
theorem bestR_none {a b : Option Rt} (h : bestR a b = none) : a = none ∧ b = none := by
  cases a with
  | none => rw [bestR_no] at h; exact ⟨rfl, h⟩
  | some a =>
    exfalso
    cases b with
    | none => cases h
    | some b =>
      rw [bestR_two] at h
      split at h <;> cases h
end Go.Proofs.Ytjnnnnolikbjcaa
end
section
/-
  ROOTS, in plain Lean: a root that is put stands; the roots of wakes.
-/
namespace Go.Proofs.Ytjnnnnolikbjcaa
open Go.ChangeShapes Go.WideShapes Go.ChangeAt Go.RowKit Agg Pg Dv

theorem ofB_there {n : Nat} (h : 24 ≤ n) {s : Int} (hs : s = 0 ∨ s = 1) : thereB n s = true := by
  unfold thereB; simp only [Bool.and_eq_true, decide_eq_true_eq]; omega
/-- a device behind a root that was put -/
def putDev (d : Dev) (r : Rt) : Dev := flD (addD d [(r.slot, blkR r)])
theorem putRt_ok {d : Dev} (hp : PowD d) {r : Rt} (hr : RightR r) (ho : ofB d.pages.length r = true) : putRt d r = (0, putDev d r) ∧ PowD (putDev d r) := by
  have h24 := (right_six hp.1).1
  have hw : whyD d = 0 := by unfold whyD; rw [if_neg (by rw [hp.1]; decide), if_neg (by rw [hp.2.1]; decide)]
  obtain ⟨h1, h2⟩ := put_pow hp (ofB_there h24 hr.slot) (blkR r)
  obtain ⟨h3, h4⟩ := flush_pow h2
  refine ⟨?_, h4⟩
  unfold putRt
  rw [if_neg (by rw [hw]; decide), if_neg (by rw [hw]; decide), if_neg (by rw [(right_iff r).2 hr, ho]; decide), h1, if_neg (by simp)]
  exact h3
theorem putDev_good {d : Dev} (hg : DGood d) (hp : PowD d) {r : Rt} (hr : RightR r) (ho : ofB d.pages.length r = true) : DGood (putDev d r) := by
  have h24 := (right_six hp.1).1
  obtain ⟨h1, h2⟩ := put_pow hp (ofB_there h24 hr.slot) (blkR r)
  have g1 := goesP_good hg (putP_good hg r.slot (blkR_bok hr))
  rw [h1] at g1
  have g2 := goesP_good g1 (flushP_good g1)
  rw [(flush_pow h2).1] at g2
  exact g2
theorem putDev_len (d : Dev) (r : Rt) : (putDev d r).pages.length = d.pages.length := settleAll_len _ _
theorem putDev_says {d : Dev} (hg : DGood d) (hp : PowD d) {r : Rt} (hr : RightR r) {k : Int} (hk : k = 0 ∨ k = 1) : saysP (putDev d r).pages (putDev d r).cache k = if k = r.slot then blkR r else saysP d.pages d.cache k := by
  have h24 := (right_six hp.1).1
  obtain ⟨h1, h2⟩ := put_pow hp (ofB_there h24 hr.slot) (blkR r)
  have g1 := goesP_good hg (putP_good hg r.slot (blkR_bok hr))
  rw [h1] at g1
  have e := says_flush (d := addD d [(r.slot, blkR r)]) h2.1 g1 (k := k) (ofB_there h24 hk)
  unfold putDev
  rw [e]
  by_cases hs : k = r.slot
  · rw [if_pos hs, hs]
    exact says_at (c := d.cache) (l1 := []) (l2 := []) (fun x hx => by cases hx)
  · rw [if_neg hs]
    exact says_no (fun x hx => by
      rw [List.mem_singleton.1 hx]
      exact fun h => hs h.symm)
theorem inR_put {d : Dev} (hg : DGood d) (hp : PowD d) {r : Rt} (hr : RightR r) (ho : ofB d.pages.length r = true) {k : Int} (hk : k = 0 ∨ k = 1) : inR (putDev d r) k = if k = r.slot then some r else inR d k := by
  unfold inR
  rw [putDev_len, putDev_says hg hp hr hk]
  by_cases hs : k = r.slot
  · rw [if_pos hs, if_pos hs, hs]; exact inB_blk hr ho
  · rw [if_neg hs, if_neg hs]
theorem zero_in (n : Nat) (k : Int) : inB n k zeroB = none := by
  unfold inB
  rw [if_neg (fun h => ?_)]
  have h1 := h.1
  unfold readR at h1
  rw [if_neg (by decide)] at h1
  exact absurd h1 (by decide)
theorem new_says (n : Nat) (k : Int) : saysP (newD n).pages (newD n).cache k = zeroB := by
  show saysP (List.replicate n zeroB) [] k = zeroB
  unfold saysP
  show ((List.replicate n zeroB).getD k.toNat zeroB) = zeroB
  rw [List.getD_eq_getElem?_getD]
  cases h : (List.replicate n zeroB)[k.toNat]? with
  | none => rfl
  | some b => exact List.eq_of_mem_replicate (List.mem_of_getElem? h)
def wkA : Rt := ⟨1, 9, [20, 21], 130⟩
def wkB : Rt := ⟨0, 12, [22], 5⟩
theorem wkA_r : RightR wkA := (right_iff _).1 (by decide +kernel)
theorem wkB_r : RightR wkB := (right_iff _).1 (by decide +kernel)
theorem wkA_d : dataR wkA = [2, 0, 20, 0, 21, 0, 0, 0, 130] := by decide +kernel
def wk0 : Dev := newD 24
def wk1 : Dev := putDev wk0 wkA
def wk2 : Dev := putDev wk1 wkB
theorem wk0_pow : PowD wk0 := ⟨right_of (by simp [wk0, newD]) (by simp [wk0, newD]) (by simp [wk0, newD]) (by simp [wk0, newD]) (by simp [wk0, newD]) (by simp [wk0, newD]), rfl, rfl⟩
theorem wk0_good : DGood wk0 := newD_good (by decide)
theorem wk0_len : wk0.pages.length = 24 := by simp [wk0, newD]
theorem wkA_of : ofB 24 wkA = true := by decide
theorem wkB_of : ofB 24 wkB = true := by decide
theorem wk1_ok : putRt wk0 wkA = (0, wk1) ∧ PowD wk1 := putRt_ok wk0_pow wkA_r (by rw [wk0_len]; exact wkA_of)
theorem wk1_good : DGood wk1 := putDev_good wk0_good wk0_pow wkA_r (by rw [wk0_len]; exact wkA_of)
theorem wk1_len : wk1.pages.length = 24 := by rw [wk1, putDev_len, wk0_len]
theorem wk2_ok : putRt wk1 wkB = (0, wk2) ∧ PowD wk2 := putRt_ok wk1_ok.2 wkB_r (by rw [wk1_len]; exact wkB_of)
theorem wk2_good : DGood wk2 := putDev_good wk1_good wk1_ok.2 wkB_r (by rw [wk1_len]; exact wkB_of)
theorem wk0_find : findR wk0 = none := by
  have h : ∀ k : Int, inR wk0 k = none := fun k => by unfold inR wk0; rw [new_says]; exact zero_in _ _
  unfold findR; rw [h, h]; rfl
theorem wk2_find : findR wk2 = some wkB := by
  unfold findR
  have h0 : inR wk2 0 = some wkB := by unfold wk2; rw [inR_put wk1_good wk1_ok.2 wkB_r (by rw [wk1_len]; exact wkB_of) (.inl rfl), if_pos (show (0 : Int) = wkB.slot from rfl)]
  have h1 : inR wk2 1 = some wkA := by
    unfold wk2
    rw [inR_put wk1_good wk1_ok.2 wkB_r (by rw [wk1_len]; exact wkB_of) (.inr rfl), if_neg (by decide)]
    unfold wk1
    rw [inR_put wk0_good wk0_pow wkA_r (by rw [wk0_len]; exact wkA_of) (.inr rfl), if_pos (show (1 : Int) = wkA.slot from rfl)]
  rw [h0, h1]
  rfl
theorem pow_why {d : Dev} (hp : PowD d) : whyD d = 0 := by unfold whyD; rw [if_neg (by rw [hp.1]; decide), if_neg (by rw [hp.2.1]; decide)]
end Go.Proofs.Ytjnnnnolikbjcaa
end
