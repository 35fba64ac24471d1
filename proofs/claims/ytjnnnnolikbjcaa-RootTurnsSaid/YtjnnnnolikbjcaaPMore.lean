/-
  THE WALKS OF LAYER 15 (crc): each function of the program, and of the reference, computes what the plain laws say.
-/
import Derived.Test.YtjnnnnolikbjcaaRows
import Derived.WalkKit
import Derived.ProofKit
import Derived.OpenShut
import Derived.ShutString
import Derived.ChangeOld
import Derived.Below
import Derived.StillTailTactics
import Derived.Lib.Hide
import Derived.BigQuiet
import Derived.Deep.QuietTactic
import Derived.Test.YtjnnnnolikbjcaaAgg
import Derived.Test.YtjnnnnolikbjcaaCrcPlain
section
namespace Go.Proofs.Ytjnnnnolikbjcaa
open Go.ChangeShapes Go.WideShapes Go.ChangeAt Go.RowKit

theorem ret_int {k : IntKind} {a b : Int} (h : a = b) : Ending.returned (.int k a) = .returned (.int k b) := by rw [h]

@[irreducible] def tabV : Array Value := (Crc.tab.map fun n : Nat => Value.int .u32 (n : Int)).toArray
@[irreducible] def tabZ : Array Value := Array.replicate 16 (.int .u32 0)
theorem tab_cell (i : Nat) (hi : i < 16) : tabV[i]? = some (.int .u32 (Crc.tab.getD i 0 : Nat)) := by
  have : i = 0 ∨ i = 1 ∨ i = 2 ∨ i = 3 ∨ i = 4 ∨ i = 5 ∨ i = 6 ∨ i = 7 ∨ i = 8 ∨ i = 9 ∨ i = 10 ∨ i = 11 ∨ i = 12 ∨ i = 13 ∨ i = 14 ∨ i = 15 := by omega
  unfold tabV
  rcases this with rfl | rfl | rfl | rfl | rfl | rfl | rfl | rfl | rfl | rfl | rfl | rfl | rfl | rfl | rfl | rfl <;> rfl

theorem bits_xor (k : IntKind) (a b : Nat) (hk : k.signed = false) (ha : a < 2 ^ k.bits) (hb : b < 2 ^ k.bits) : bits .xor k (a : Int) (b : Int) = ((a ^^^ b : Nat) : Int) := by
  have hx : a ^^^ b < 2 ^ k.bits := Nat.xor_lt_two_pow ha hb
  have h1 : (BitVec.ofInt k.bits (a : Int)).toNat = a := by
    rw [BitVec.ofInt_natCast, BitVec.toNat_ofNat]; exact Nat.mod_eq_of_lt ha
  have h2 : (BitVec.ofInt k.bits (b : Int)).toNat = b := by
    rw [BitVec.ofInt_natCast, BitVec.toNat_ofNat]; exact Nat.mod_eq_of_lt hb
  show k.wrap ((BitVec.ofInt k.bits (a : Int) ^^^ BitVec.ofInt k.bits (b : Int)).toNat : Int) = _
  rw [BitVec.toNat_xor, h1, h2]
  cases k <;> simp [IntKind.signed] at hk <;> simp [IntKind.wrap, IntKind.bits, IntKind.signed] at hx ⊢ <;> omega
theorem wrap_u8 (n : Int) : IntKind.u8.wrap n = n % 256 := by simp [IntKind.wrap, IntKind.bits, IntKind.signed]
theorem wrap_u32 (n : Int) : IntKind.u32.wrap n = n % 4294967296 := by simp [IntKind.wrap, IntKind.bits, IntKind.signed]
theorem half_ix (s n : Nat) (hs : s < 2 ^ 32) (hn : n < 16) : bits .xor .u8 (IntKind.u8.wrap ((s : Int) / 268435456)) (n : Int) = ((s / 2 ^ 28 ^^^ n : Nat) : Int) := by
  rw [wrap_u8, show ((s : Int) / 268435456) % 256 = ((s / 2 ^ 28 : Nat) : Int) by omega, bits_xor .u8 _ _ rfl (by simp [IntKind.bits]; omega) (by simp [IntKind.bits]; omega)]
theorem half_out (s : Crc.W) (t : Nat) (ht : t < 2 ^ 32) : bits .xor .u32 (IntKind.u32.wrap ((s.toNat : Int) * 16)) (t : Int) = (((s <<< 4) ^^^ BitVec.ofNat 32 t).toNat : Int) := by
  have := s.isLt
  rw [wrap_u32, show ((s.toNat : Int) * 16) % 4294967296 = ((s.toNat * 16 % 2 ^ 32 : Nat) : Int) by omega, bits_xor .u32 _ _ rfl (by simp [IntKind.bits]; omega) (by simpa [IntKind.bits] using ht)]
  rw [BitVec.toNat_xor, BitVec.toNat_shiftLeft, Nat.shiftLeft_eq, BitVec.toNat_ofNat, Nat.mod_eq_of_lt ht]
theorem tab_lt (i : Nat) : Crc.tab.getD i 0 < 2 ^ 32 := by
  by_cases h : i < 16
  · have : ∀ i : Fin 16, Crc.tab.getD i.val 0 < 2 ^ 32 := by decide
    exact this ⟨i, h⟩
  · rw [List.getD_eq_getElem?_getD, List.getElem?_eq_none (by simp [Crc.tab]; omega)]; simp

set_option maxRecDepth 100000 in
set_option maxHeartbeats 400000 in
theorem half_any (a : Addr) (s : Crc.W) (n : Nat) (w : World) (hc : w.cell? a = some (.int .u32 s.toNat)) (hf : w.frozen? a = false) (h3 : n < 16) :
    Calls Try.prog 95 #[.pointer (some a), .int .u8 n] w fun e w' => e = .returned (.tuple #[]) ∧ w' = ((w.setCell a (.int .u32 (Crc.half s n).toNat)).alloc (.cells tabV 143)).drew := by
  have hs := s.isLt
  have hlt := block_lt_of_cell hc
  obtain ⟨b, o, spot⟩ := a
  obtain rfl : spot = none := World.cell?_spot hc
  have hix := half_ix s.toNat n hs h3
  have hout := half_out s _ (tab_lt (s.toNat / 2 ^ 28 ^^^ n))
  have HF : Hid (Crc.half s n = (s <<< 4) ^^^ BitVec.ofNat 32 (Crc.tab.getD (s.toNat / 2 ^ 28 ^^^ n) 0)) := rfl
  have hj : (s.toNat / 2 ^ 28) ^^^ n < 16 := by
    have : s.toNat / 2 ^ 28 < 2 ^ 4 := by omega
    exact Nat.xor_lt_two_pow this (by omega)
  have ht := tab_cell _ hj
  generalize s.toNat / 2 ^ 28 ^^^ n = j at *
  generalize Crc.tab.getD j 0 = t at *
  generalize Crc.half s n = out at *
  rw [← HF.out] at hout
  clear HF
  have hj' : (j : Int) < 16 := by omega
  go_enter Try.func95, Try.ntmps95
  go_step
  go_step
  go_step
  refine Agg.run rfl (.agg tabV) w (by unfold tabV; kernel_rfl) ?_
  refine Agg.run rfl (.pointer (some ⟨w.heap.size, 0, none⟩)) (w.alloc (.cells tabZ 143)) (by unfold tabZ; kernel_rfl) ?_
  refine Agg.storeNew 143 143 tabZ tabV w _ _ _ rfl rfl rfl rfl rfl rfl (by unfold tabV; kernel_rfl) (by unfold tabV tabZ; kernel_rfl) (by unfold tabV; decide) ?_
  simp only [Act.put, List.setIfInBounds_toArray, List.set_cons_succ, List.set_cons_zero]
  go_wp2
  refine Agg.stillTail 16 (by kernel_rfl) (by kernel_rfl) (fun K hK => ?_)
  simp only [List.take_succ_cons, List.take_zero]
  repeat still_step
  refine wpStill_nil (hK _ ?_)
  clear hK K
  simp only [List.drop_succ_cons, List.drop_zero]
  go_wp2
  go_end0
  exact ⟨rfl, rfl⟩
theorem half_int (a : Addr) (s : Crc.W) (n : Int) (w : World) (hc : w.cell? a = some (.int .u32 s.toNat)) (hf : w.frozen? a = false) (h0 : 0 ≤ n) (h3 : n < 16) :
    Calls Try.prog 95 #[.pointer (some a), .int .u8 n] w fun e w' => e = .returned (.tuple #[]) ∧ w' = ((w.setCell a (.int .u32 (Crc.half s n.toNat).toNat)).alloc (.cells tabV 143)).drew := by
  obtain ⟨n, rfl⟩ := Int.eq_ofNat_of_zero_le h0
  exact half_any a s n w hc hf (by omega)

/-- one cell was written, and blocks were laid -/
structure Wr (w w' : World) (a : Addr) (v : Value) : Prop where
  below : ∀ B, B ≤ w.heap.size → B ≤ a.block → Below B w w'
  cell : w'.cell? a = some v
  frozen : w'.frozen? a = false
  size : w.heap.size ≤ w'.heap.size
theorem cell_set {w : World} {a : Addr} {u v : Value} (hc : w.cell? a = some u) : (w.setCell a v).cell? a = some v := by
  obtain ⟨b, o, sp⟩ := a
  obtain rfl : sp = none := World.cell?_spot hc
  unfold World.cell? at hc
  unfold World.cell? World.setCell
  simp only [Array.getElem?_modify]
  split at hc
  · rename_i c e f hb
    have hb' : w.heap[b]? = some (.cells c e f) := hb
    simp [hb'] at hc ⊢
    have := (Array.getElem?_eq_some_iff.1 hc).1
    simp [this]
  · cases hc
theorem frozen_set {w : World} {a p : Addr} {v : Value} : (w.setCell a v).frozen? p = w.frozen? p := by
  unfold World.frozen? World.setCell
  simp only [Array.getElem?_modify]
  by_cases h : a.block = p.block
  · simp [h]
    cases w.heap[p.block]? with
    | none => rfl
    | some o => cases o <;> rfl
  · simp [h]
theorem Wr.step {w : World} {a : Addr} {u v : Value} (o : Obj) (hc : w.cell? a = some u) (hf : w.frozen? a = false) : Wr w ((w.setCell a v).alloc o).drew a v := by
  have hlt := block_lt_of_cell hc
  refine ⟨fun B h1 h2 => (((Below.refl B w).setCell h2 v).alloc (by simpa using h1) o).drew, ?_, ?_, by simp⟩
  · rw [World.cell?_drew, World.cell?_alloc_lt _ _ _ (by simpa using hlt)]
    exact cell_set hc
  · show ((w.setCell a v).alloc o).frozen? a = false
    rw [World.frozen?_alloc_old _ _ _ (by simp; omega)]
    rw [frozen_set, hf]
theorem Wr.trans {w w1 w2 : World} {a : Addr} {u v : Value} (h : Wr w w1 a u) (k : Wr w1 w2 a v) : Wr w w2 a v :=
  ⟨fun B h1 h2 => (h.below B h1 h2).trans (k.below B (Nat.le_trans h1 h.size) h2), k.cell, k.frozen, Nat.le_trans h.size k.size⟩

theorem low_nib (c : Nat) : bits .and .u8 (c : Int) 15 = ((c % 16 : Nat) : Int) := by
  show IntKind.u8.wrap ((BitVec.ofInt 8 (c : Int) &&& BitVec.ofInt 8 15).toNat : Int) = _
  rw [BitVec.ofInt_natCast, BitVec.toNat_and, BitVec.toNat_ofNat]
  have : (BitVec.ofInt 8 15).toNat = 2 ^ 4 - 1 := by decide
  rw [this, Nat.and_two_pow_sub_one_eq_mod, wrap_u8]
  omega

set_option maxHeartbeats 400000 in
theorem take_any (a : Addr) (s : Crc.W) (c : Nat) (w : World) (hcc : c < 256) (hc : w.cell? a = some (.int .u32 s.toNat)) (hf : w.frozen? a = false) :
    Calls Try.prog 94 #[.pointer (some a), .int .u8 c] w fun e w' => e = .returned (.tuple #[]) ∧ Wr w w' a (.int .u32 (Crc.half (Crc.half s (c / 16)) (c % 16)).toNat) := by
  have hlow := low_nib c
  have e1 : ((c : Int) / 16).toNat = c / 16 := by omega
  have hn := Nat.mod_lt c (show 0 < 16 by omega)
  obtain ⟨b, o, spot⟩ := a
  obtain rfl : spot = none := World.cell?_spot hc
  have W1 := Wr.step (v := .int .u32 (Crc.half s (c / 16)).toNat) (.cells tabV 143) hc hf
  have W2 := Wr.step (v := .int .u32 (Crc.half (Crc.half s (c / 16)) (c % 16)).toNat) (.cells tabV 143) W1.cell W1.frozen
  have W3 := Lib.hid (W1.trans W2)
  have H1 := Lib.hid W1.cell
  have H2 := Lib.hid W1.frozen
  have E1 := Lib.hid e1
  generalize c % 16 = d at *
  clear W1 W2 e1
  go_enter Try.func94, Try.ntmps94
  go_wp2_with fail
  refine (half_int _ s _ _ hc hf (by omega) (by omega)).mono ?_
  rintro e w1 ⟨rfl, hw1⟩
  rw [E1.out] at hw1
  rw [← hw1] at W3 H1 H2
  have HW := Lib.hid hw1
  clear hw1
  go_wp2_with fail
  refine (half_int _ _ _ _ H1.out H2.out (by omega) (by omega)).mono ?_
  rintro e w2 ⟨rfl, hw2⟩
  rw [Int.toNat_natCast] at hw2
  rw [← hw2] at W3
  have HW2 := Lib.hid hw2
  clear hw2
  go_wp2_with fail
  go_end0
  exact ⟨rfl, W3.out⟩
end Go.Proofs.Ytjnnnnolikbjcaa
end
section
/-
  THE WALKS OF LAYER 15 (crc), third part: times, powers, Zeros, Join.
-/
namespace Go.Proofs.Ytjnnnnolikbjcaa
open Go.ChangeShapes Go.WideShapes Go.ChangeAt Go.RowKit Agg

theorem bxor (s t : Crc.W) : bits .xor .u32 (s.toNat : Int) (t.toNat : Int) = ((s ^^^ t).toNat : Int) := by
  have := s.isLt; have := t.isLt
  rw [bits_xor .u32 _ _ rfl (by simpa [IntKind.bits] using s.isLt) (by simpa [IntKind.bits] using t.isLt), BitVec.toNat_xor]
theorem xt_hi (s : Crc.W) (h : s.toNat / 2147483648 = 1) : bits .xor .u32 ((s.toNat : Int) * 2 % 4294967296) 79764919 = ((Crc.xt s).toNat : Int) := by
  have hm : s.msb = true := by
    cases hb : s.msb
    · have := BitVec.msb_eq_false_iff_two_mul_lt.1 hb; omega
    · rfl
  have e : (s.toNat : Int) * (2 : Int) % (4294967296 : Int) = Int.ofNat (s <<< 1).toNat := by
    show _ = (((s <<< 1).toNat : Nat) : Int)
    rw [BitVec.toNat_shiftLeft, Nat.shiftLeft_eq]; omega
  have e2 : (79764919 : Int) = (Crc.poly.toNat : Int) := by decide
  rw [e, e2]
  show bits .xor .u32 (((s <<< 1).toNat : Nat) : Int) _ = _
  rw [bxor, Crc.xt, hm]; rfl
theorem xt_lo (s : Crc.W) (h : s.toNat / 2147483648 = 0) : (s.toNat : Int) * 2 % 4294967296 = ((Crc.xt s).toNat : Int) := by
  have hm : s.msb = false := BitVec.msb_eq_false_iff_two_mul_lt.2 (by omega)
  have e : (s.toNat : Int) * (2 : Int) % (4294967296 : Int) = Int.ofNat (s <<< 1).toNat := by
    show _ = (((s <<< 1).toNat : Nat) : Int)
    rw [BitVec.toNat_shiftLeft, Nat.shiftLeft_eq]; omega
  rw [e, Crc.xt, hm]; simp
theorem bit_and (b : Crc.W) (j : Nat) : bits .and .u32 ((b.toNat : Int) / 2 ^ j) 1 = if b.getLsbD j then 1 else 0 := by
  have hb := b.isLt
  have e : ((b.toNat : Int) / 2 ^ j) = ((b.toNat / 2 ^ j : Nat) : Int) := by rw [Int.natCast_ediv]; simp
  rw [e]
  show IntKind.u32.wrap ((BitVec.ofInt 32 ((b.toNat / 2 ^ j : Nat) : Int) &&& BitVec.ofInt 32 1).toNat : Int) = _
  have h1 : (BitVec.ofInt 32 1).toNat = 2 ^ 1 - 1 := by decide
  rw [BitVec.ofInt_natCast, BitVec.toNat_and, BitVec.toNat_ofNat, h1, Nat.and_two_pow_sub_one_eq_mod, wrap_u32]
  have h2 : b.toNat / 2 ^ j < 2 ^ 32 := Nat.lt_of_le_of_lt (Nat.div_le_self _ _) hb
  rw [Nat.mod_eq_of_lt h2, BitVec.getLsbD, Nat.testBit_eq_decide_div_mod_eq]
  by_cases h3 : b.toNat / 2 ^ j % 2 = 1
  · simp [h3]
  · have : b.toNat / 2 ^ j % 2 = 0 := by omega
    simp [this]

def pwV (i j : Nat) : Value := if j < i then .int .u32 (Crc.pw j).toNat else .int .u32 0
@[irreducible] def pwArr (i : Nat) : Array Value := ((List.range 41).map (pwV i)).toArray
theorem pwArr_size (i : Nat) : (pwArr i).size = 41 := by unfold pwArr; simp
theorem pwArr_one (i : Nat) : ∀ v ∈ (pwArr i).toList, v.oneCell' = true := by
  unfold pwArr
  intro v hv
  obtain ⟨j, _, rfl⟩ := List.mem_map.1 hv
  unfold pwV; split <;> rfl
theorem pwArr_zero : pwArr 0 = Array.replicate 41 (.int .u32 0) := by unfold pwArr; rfl
theorem pwArr_get (i j : Nat) (h : j < i) (hj : j < 41) : (pwArr i)[j]? = some (.int .u32 (Crc.pw j).toNat) := by
  unfold pwArr; simp [hj, pwV, h]
theorem pwArr_zero_get (i j : Nat) (h : ¬ j < i) (hj : j < 41) : (pwArr i)[j]? = some (.int .u32 0) := by
  unfold pwArr; simp [hj, pwV, h]
theorem pwArr_set (i : Nat) (hi : i < 41) : (pwArr i).setIfInBounds i (.int .u32 (Crc.pw i).toNat) = pwArr (i + 1) := by
  unfold pwArr
  rw [List.setIfInBounds_toArray]
  congr 1
  apply List.ext_getElem?
  intro j
  rw [List.getElem?_set]
  by_cases h : i = j
  · subst h; simp [hi, pwV]
  · simp only [h, if_false, List.getElem?_map]
    by_cases hj : j < 41
    · simp only [List.getElem?_range hj, Option.map_some, pwV]
      by_cases h2 : j < i
      · simp [h2, Nat.lt_succ_of_lt h2]
      · simp [h2, show ¬ j < i + 1 by omega]
    · simp [hj]

theorem low_bit (m : Nat) (hm : m < 2 ^ 62) : bits .and .i64 (m : Int) 1 = ((m % 2 : Nat) : Int) := by
  show IntKind.i64.wrap ((BitVec.ofInt 64 (m : Int) &&& BitVec.ofInt 64 1).toNat : Int) = _
  have h1 : (BitVec.ofInt 64 1).toNat = 2 ^ 1 - 1 := by decide
  have h2 : (m % 2 ^ 64) = m := Nat.mod_eq_of_lt (by omega)
  rw [BitVec.ofInt_natCast, BitVec.toNat_and, BitVec.toNat_ofNat, h1, Nat.and_two_pow_sub_one_eq_mod, h2]
  rw [IntKind.wrap_i64]; omega

theorem not_u32 (s : Crc.W) : bits .xor .u32 IntKind.u32.max (s.toNat : Int) = ((~~~ s).toNat : Int) := by
  have e : IntKind.u32.max = ((BitVec.allOnes 32).toNat : Int) := by decide
  rw [e, bxor, BitVec.allOnes_xor]
end Go.Proofs.Ytjnnnnolikbjcaa
end
section
/-
  THE WALKS OF LAYER 15 (crc), second part: More, Sum, own; the reference's Bit, More, Sum.
-/
namespace Go.Proofs.Ytjnnnnolikbjcaa
open Go.ChangeShapes Go.WideShapes Go.ChangeAt Go.RowKit Agg

theorem ti25 : TI Try.prog 57 5 1 1 (.int .u8 0) := ⟨by kernel_rfl, by kernel_rfl, rfl, by decide⟩

theorem foldl_take_succ (s : Crc.W) (l : List UInt8) (k : Nat) (h : k < l.length) : (l.take (k + 1)).foldl Crc.take s = Crc.take ((l.take k).foldl Crc.take s) l[k] := by
  rw [List.take_succ_eq_append_getElem h, List.foldl_append]; rfl

set_option maxHeartbeats 400000 in
theorem more_any (s : Crc.W) (l : List UInt8) (v : Value) (w : World) (hv : Bytes w v l) (hm : l.length ≤ maxLen) :
    Calls Try.prog 93 #[.int .u32 s.toNat, v] w fun e w' => e = .returned (.int .u32 (Crc.more s l).toNat) ∧ Below w.heap.size w w' := by
  have hm' : l.length ≤ 9223372036854775807 := by unfold maxLen at hm; omega
  clear hm
  have HE : Hid (Crc.more s l = (l.take l.length).foldl Crc.take s) := by show _ = _; rw [Crc.more_takes, List.take_length]
  have hs : SlR w v 1 l.length (bv l) := hv
  clear hv
  obtain ⟨x, cap, rfl, hc1, hc2⟩ := hs.shape
  generalize hn : l.length = n at *
  have HN : Hid (l.length = n) := hn
  clear hn
  generalize Crc.more s l = out at *
  go_enter Try.func93, Try.ntmps93
  go_wp2
  go_loopw [14] (fun i wr => ∃ k : Nat, k ≤ n ∧ i = .int .i64 k ∧ Below w.heap.size w wr ∧ w.heap.size < wr.heap.size ∧ wr.cell? ⟨w.heap.size, 0, none⟩ = some (.int .u32 ((l.take k).foldl Crc.take s).toNat) ∧ wr.frozen? ⟨w.heap.size, 0, none⟩ = false) (fun i _ => n - (intOf i).toNat)
  case atStart => exact ⟨0, by omega, rfl, (Below.refl _ _).alloc (Nat.le_refl _) _, by simp, by simp [go_sem], by simp [go_sem]⟩
  case round =>
    obtain ⟨k, hk, rfl, hb, hsz, hcell, hfr⟩ := hrel
    have HC := Lib.hid hcell
    have HR := Lib.hid hfr
    have HB := Lib.hid hb
    clear hcell hfr hb
    by_cases hlt : k < n
    · have hlt' : k < l.length := by rw [HN.out]; exact hlt
      have hl := foldl_take_succ s l k hlt'
      obtain ⟨b, o, cap', hve, _, _, hcs, hbl⟩ := SlR.pos hs (by decide) (by omega)
      simp only [Value.slice.injEq] at hve
      obtain ⟨rfl, _, rfl⟩ := hve
      have hck : wr.cell? ⟨b, o + k, none⟩ = some (.int .u8 (l[k].toNat : Int)) := cell_keep HB.out (hcs k _ (bv_get l k hlt'))
      have hby := l[k].toNat_lt
      clear hcs
      have HL := Lib.hid hl
      clear hl
      have HT : Hid (Crc.take ((l.take k).foldl Crc.take s) l[k] = Crc.half (Crc.half ((l.take k).foldl Crc.take s) (l[k].toNat / 16)) (l[k].toNat % 16)) := rfl
      generalize l[k] = c at *
      go_wp2_with fail
      refine (take_any _ _ c.toNat _ hby HC.out HR.out).mono ?_
      rintro e w1 ⟨rfl, hw1⟩
      rw [← HT.out, ← HL.out] at hw1
      have HW := Lib.hid hw1
      clear hw1
      go_wp2_with fail
      go_roundw
      case rel => exact ⟨k + 1, by omega, by go_num, HB.out.trans (HW.out.below _ (by omega) (by simp)), by have := HW.out.size; omega, HW.out.cell, HW.out.frozen⟩
      case measure => simp [intOf]; omega
    · have : k = n := by omega
      subst this
      have hcell : wr.cell? ⟨w.heap.size, 0, none⟩ = some (.int .u32 out.toNat) := by rw [HE.out]; exact HC.out
      go_wp2
      go_ret
      exact ⟨rfl, HB.out⟩

theorem bv_oneCell {cs : List Value} (h : ∀ u ∈ cs, u.oneCell' = true) (k : Nat) : ∀ u ∈ cs.take k, u.oneCell' = true := fun u hu => h u (List.mem_of_mem_take hu)

def SumJ (n : Nat) (x : Option Addr) (cap : Nat) (ls : List (List UInt8)) (w0 : World) (a : Act) (w : World) : Prop :=
  ∃ (k : Nat) (u5 u6 u7 u8 u9 u10 u11 u12 u13 u14 u15 u16 : Value), k ≤ n ∧ Below w0.heap.size w0 w ∧
    a = { tmps := #[.slice x n cap, undef, .int .u32 0, .int .u32 (Crc.more Crc.ones (ls.take k).flatten).toNat, .int .i64 k, u5, u6, u7, u8, u9, u10, u11, u12, u13, u14, u15, u16, undef], defers := [] }

set_option maxHeartbeats 400000 in
theorem sum_any (ls : List (List UInt8)) (v : Value) (w : World) (hv : Rows2 w v ls) (hm : ∀ l ∈ ls, l.length ≤ maxLen) :
    Calls Try.prog 88 #[v] w fun e w' => e = .returned (.int .u32 (Crc.sum ls.flatten).toNat) ∧ Below w.heap.size w w' := by
  obtain ⟨vs, hs, hrows⟩ := hv
  obtain ⟨x, cap, rfl, hc1, hc2⟩ := hs.shape
  have hc3 : cap ≤ 9223372036854775807 := by unfold maxLen at hc2; omega
  clear hc2
  generalize hn : ls.length = n at *
  have HE : Hid (Crc.sum ls.flatten = Crc.more Crc.ones (ls.take n).flatten) := by show _ = _; rw [← hn, List.take_length]; rfl
  have HN : Hid (ls.length = n) := hn
  have HM := Lib.hid hm
  have HR := Lib.hid hrows
  clear hn hm hrows
  generalize Crc.sum ls.flatten = out at *
  go_enter Try.func88, Try.ntmps88
  go_wp2_with fail
  refine Agg.scopeJumps 0 (SumJ n x cap ls w) (fun a _ => n - (intOf (a.tmps.getD 4 undef)).toNat) rfl ?_ (fun H => ?_)
  · rintro a w1 ⟨k, u5, u6, u7, u8, u9, u10, u11, u12, u13, u14, u15, u16, hk, hb, rfl⟩
    have HB := Lib.hid hb
    clear hb
    by_cases hlt : k < n
    · have hlt' : k < ls.length := by rw [HN.out]; exact hlt
      obtain ⟨b, o, cap', hve, _, _, hcs, hbl⟩ := SlR.pos hs (by decide) (by omega)
      simp only [Value.slice.injEq, true_and] at hve
      obtain ⟨rfl, rfl⟩ := hve
      obtain ⟨u, hu, hby⟩ := HR.out k _ (List.getElem?_eq_getElem hlt')
      have hck : w1.cell? ⟨b, o + k, none⟩ = some u := cell_keep HB.out (hcs k _ hu)
      have hmk := HM.out ls[k] (List.getElem_mem hlt')
      have HS : Hid (Crc.more Crc.ones (ls.take (k + 1)).flatten = Crc.more (Crc.more Crc.ones (ls.take k).flatten) ls[k]) := by
        show _ = _
        rw [List.take_succ_eq_append_getElem hlt', List.flatten_append, Crc.more_append]; simp
      have hby1 := Lib.hid (hby.keep HB.out)
      have HMK := Lib.hid hmk
      clear hcs hmk hby
      generalize ls[k] = l at *
      go_wp2_with fail
      refine (more_any _ l u _ hby1.out HMK.out).mono ?_
      rintro e w2 ⟨rfl, hb2⟩
      rw [← HS.out]
      have HB2 := Lib.hid hb2
      clear hb2
      go_wp2_with fail
      go_step3
      refine ⟨rfl, ⟨k + 1, _, _, _, _, _, _, _, _, _, _, _, _, by omega, HB.out.trans (HB2.out.mono HB.out.size), by go_num⟩, by simp [intOf]; omega⟩
    · have : k = n := by omega
      subst this
      rw [← HE.out]
      go_wp2_with fail
      simp only [Exit.jump]
      go_ret
      exact ⟨rfl, HB.out⟩
  · go_wp2_with fail
    go_step3
    go_step
    go_step
    refine H.out _ _ ⟨0, _, _, _, _, _, _, _, _, _, _, _, _, Nat.zero_le _, Below.refl _ _, rfl⟩

end Go.Proofs.Ytjnnnnolikbjcaa
end
