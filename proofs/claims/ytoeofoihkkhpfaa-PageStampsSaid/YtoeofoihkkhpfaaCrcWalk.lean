/-
  THE WALKS OF LAYER 15 (crc): each function of the program, and of the reference, computes what the plain laws say.
-/
import Derived.Test.YtoeofoihkkhpfaaRows
import Derived.Test.YtoeofoihkkhpfaaAgg
import Derived.Test.YtoeofoihkkhpfaaCrcPlain
import Derived.WalkKit
import Derived.ProofKit
import Derived.OpenShut
import Derived.ShutString
import Derived.ChangeOld
import Derived.Below
import Derived.StillTailTactics
import Derived.Lib.Hide
import Derived.BigQuiet
import Derived.Deep.QuietTactic
namespace Go.Proofs.Ytoeofoihkkhpfaa
open Go.ChangeShapes Go.WideShapes Go.ChangeAt Go.RowKit

theorem ret_int {k : IntKind} {a b : Int} (h : a = b) : Ending.returned (.int k a) = .returned (.int k b) := by rw [h]

@[irreducible] def tabV : Array Value := (Crc.tab.map fun n : Nat => Value.int .u32 (n : Int)).toArray
@[irreducible] def tabZ : Array Value := Array.replicate 16 (.int .u32 0)
theorem tab_cell (i : Nat) (hi : i < 16) : tabV[i]? = some (.int .u32 (Crc.tab.getD i 0 : Nat)) := by
  have : i = 0 ∨ i = 1 ∨ i = 2 ∨ i = 3 ∨ i = 4 ∨ i = 5 ∨ i = 6 ∨ i = 7 ∨ i = 8 ∨ i = 9 ∨ i = 10 ∨ i = 11 ∨ i = 12 ∨ i = 13 ∨ i = 14 ∨ i = 15 := by omega
  unfold tabV
  rcases this with rfl | rfl | rfl | rfl | rfl | rfl | rfl | rfl | rfl | rfl | rfl | rfl | rfl | rfl | rfl | rfl <;> rfl

theorem bits_xor (k : IntKind) (a b : Nat) (hk : k.signed = false) (ha : a < 2 ^ k.bits) (hb : b < 2 ^ k.bits) : bits .xor k (a : Int) (b : Int) = ((a ^^^ b : Nat) : Int) := by
  have hx : a ^^^ b < 2 ^ k.bits := Nat.xor_lt_two_pow ha hb
  have h1 : (BitVec.ofInt k.bits (a : Int)).toNat = a := by
    rw [BitVec.ofInt_natCast, BitVec.toNat_ofNat]; exact Nat.mod_eq_of_lt ha
  have h2 : (BitVec.ofInt k.bits (b : Int)).toNat = b := by
    rw [BitVec.ofInt_natCast, BitVec.toNat_ofNat]; exact Nat.mod_eq_of_lt hb
  show k.wrap ((BitVec.ofInt k.bits (a : Int) ^^^ BitVec.ofInt k.bits (b : Int)).toNat : Int) = _
  rw [BitVec.toNat_xor, h1, h2]
  cases k <;> simp [IntKind.signed] at hk <;> simp [IntKind.wrap, IntKind.bits, IntKind.signed] at hx ⊢ <;> omega
theorem wrap_u8 (n : Int) : IntKind.u8.wrap n = n % 256 := by simp [IntKind.wrap, IntKind.bits, IntKind.signed]
theorem wrap_u32 (n : Int) : IntKind.u32.wrap n = n % 4294967296 := by simp [IntKind.wrap, IntKind.bits, IntKind.signed]
theorem half_ix (s n : Nat) (hs : s < 2 ^ 32) (hn : n < 16) : bits .xor .u8 (IntKind.u8.wrap ((s : Int) / 268435456)) (n : Int) = ((s / 2 ^ 28 ^^^ n : Nat) : Int) := by
  rw [wrap_u8, show ((s : Int) / 268435456) % 256 = ((s / 2 ^ 28 : Nat) : Int) by omega, bits_xor .u8 _ _ rfl (by simp [IntKind.bits]; omega) (by simp [IntKind.bits]; omega)]
theorem half_out (s : Crc.W) (t : Nat) (ht : t < 2 ^ 32) : bits .xor .u32 (IntKind.u32.wrap ((s.toNat : Int) * 16)) (t : Int) = (((s <<< 4) ^^^ BitVec.ofNat 32 t).toNat : Int) := by
  have := s.isLt
  rw [wrap_u32, show ((s.toNat : Int) * 16) % 4294967296 = ((s.toNat * 16 % 2 ^ 32 : Nat) : Int) by omega, bits_xor .u32 _ _ rfl (by simp [IntKind.bits]; omega) (by simpa [IntKind.bits] using ht)]
  rw [BitVec.toNat_xor, BitVec.toNat_shiftLeft, Nat.shiftLeft_eq, BitVec.toNat_ofNat, Nat.mod_eq_of_lt ht]
theorem tab_lt (i : Nat) : Crc.tab.getD i 0 < 2 ^ 32 := by
  by_cases h : i < 16
  · have : ∀ i : Fin 16, Crc.tab.getD i.val 0 < 2 ^ 32 := by decide
    exact this ⟨i, h⟩
  · rw [List.getD_eq_getElem?_getD, List.getElem?_eq_none (by simp [Crc.tab]; omega)]; simp

set_option maxHeartbeats 400000 in
theorem half_any (a : Addr) (s : Crc.W) (n : Nat) (w : World) (hc : w.cell? a = some (.int .u32 s.toNat)) (hf : w.frozen? a = false) (h3 : n < 16) :
    Calls Try.prog 44 #[.pointer (some a), .int .u8 n] w fun e w' => e = .returned (.tuple #[]) ∧ w' = ((w.setCell a (.int .u32 (Crc.half s n).toNat)).alloc (.cells tabV 81)).drew := by
  have hs := s.isLt
  have hlt := block_lt_of_cell hc
  obtain ⟨b, o, spot⟩ := a
  obtain rfl : spot = none := World.cell?_spot hc
  have hix := half_ix s.toNat n hs h3
  have hout := half_out s _ (tab_lt (s.toNat / 2 ^ 28 ^^^ n))
  have HF : Hid (Crc.half s n = (s <<< 4) ^^^ BitVec.ofNat 32 (Crc.tab.getD (s.toNat / 2 ^ 28 ^^^ n) 0)) := rfl
  have hj : (s.toNat / 2 ^ 28) ^^^ n < 16 := by
    have : s.toNat / 2 ^ 28 < 2 ^ 4 := by omega
    exact Nat.xor_lt_two_pow this (by omega)
  have ht := tab_cell _ hj
  generalize s.toNat / 2 ^ 28 ^^^ n = j at *
  generalize Crc.tab.getD j 0 = t at *
  generalize Crc.half s n = out at *
  rw [← HF.out] at hout
  clear HF
  have hj' : (j : Int) < 16 := by omega
  go_enter Try.func44, Try.ntmps44
  go_step
  go_step
  go_step
  refine Agg.run rfl (.agg tabV) w (by unfold tabV; kernel_rfl) ?_
  refine Agg.run rfl (.pointer (some ⟨w.heap.size, 0, none⟩)) (w.alloc (.cells tabZ 81)) (by unfold tabZ; kernel_rfl) ?_
  refine Agg.storeNew 81 81 tabZ tabV w _ _ _ rfl rfl rfl rfl rfl rfl (by unfold tabV; kernel_rfl) (by unfold tabV tabZ; kernel_rfl) (by unfold tabV; decide) ?_
  simp only [Act.put, List.setIfInBounds_toArray, List.set_cons_succ, List.set_cons_zero]
  go_wp2
  refine Agg.stillTail 16 (by kernel_rfl) (by kernel_rfl) (fun K hK => ?_)
  simp only [List.take_succ_cons, List.take_zero]
  repeat still_step
  refine wpStill_nil (hK _ ?_)
  clear hK K
  simp only [List.drop_succ_cons, List.drop_zero]
  go_wp2
  go_end0
  exact ⟨rfl, rfl⟩
theorem half_int (a : Addr) (s : Crc.W) (n : Int) (w : World) (hc : w.cell? a = some (.int .u32 s.toNat)) (hf : w.frozen? a = false) (h0 : 0 ≤ n) (h3 : n < 16) :
    Calls Try.prog 44 #[.pointer (some a), .int .u8 n] w fun e w' => e = .returned (.tuple #[]) ∧ w' = ((w.setCell a (.int .u32 (Crc.half s n.toNat).toNat)).alloc (.cells tabV 81)).drew := by
  obtain ⟨n, rfl⟩ := Int.eq_ofNat_of_zero_le h0
  exact half_any a s n w hc hf (by omega)

/-- one cell was written, and blocks were laid -/
structure Wr (w w' : World) (a : Addr) (v : Value) : Prop where
  below : ∀ B, B ≤ w.heap.size → B ≤ a.block → Below B w w'
  cell : w'.cell? a = some v
  frozen : w'.frozen? a = false
  size : w.heap.size ≤ w'.heap.size
theorem cell_set {w : World} {a : Addr} {u v : Value} (hc : w.cell? a = some u) : (w.setCell a v).cell? a = some v := by
  obtain ⟨b, o, sp⟩ := a
  obtain rfl : sp = none := World.cell?_spot hc
  unfold World.cell? at hc
  unfold World.cell? World.setCell
  simp only [Array.getElem?_modify]
  split at hc
  · rename_i c e f hb
    have hb' : w.heap[b]? = some (.cells c e f) := hb
    simp [hb'] at hc ⊢
    have := (Array.getElem?_eq_some_iff.1 hc).1
    simp [this]
  · cases hc
theorem frozen_set {w : World} {a p : Addr} {v : Value} : (w.setCell a v).frozen? p = w.frozen? p := by
  unfold World.frozen? World.setCell
  simp only [Array.getElem?_modify]
  by_cases h : a.block = p.block
  · simp [h]
    cases w.heap[p.block]? with
    | none => rfl
    | some o => cases o <;> rfl
  · simp [h]
theorem Wr.step {w : World} {a : Addr} {u v : Value} (o : Obj) (hc : w.cell? a = some u) (hf : w.frozen? a = false) : Wr w ((w.setCell a v).alloc o).drew a v := by
  have hlt := block_lt_of_cell hc
  refine ⟨fun B h1 h2 => (((Below.refl B w).setCell h2 v).alloc (by simpa using h1) o).drew, ?_, ?_, by simp⟩
  · rw [World.cell?_drew, World.cell?_alloc_lt _ _ _ (by simpa using hlt)]
    exact cell_set hc
  · show ((w.setCell a v).alloc o).frozen? a = false
    rw [World.frozen?_alloc_old _ _ _ (by simp; omega)]
    rw [frozen_set, hf]
theorem Wr.trans {w w1 w2 : World} {a : Addr} {u v : Value} (h : Wr w w1 a u) (k : Wr w1 w2 a v) : Wr w w2 a v :=
  ⟨fun B h1 h2 => (h.below B h1 h2).trans (k.below B (Nat.le_trans h1 h.size) h2), k.cell, k.frozen, Nat.le_trans h.size k.size⟩

theorem low_nib (c : Nat) : bits .and .u8 (c : Int) 15 = ((c % 16 : Nat) : Int) := by
  show IntKind.u8.wrap ((BitVec.ofInt 8 (c : Int) &&& BitVec.ofInt 8 15).toNat : Int) = _
  rw [BitVec.ofInt_natCast, BitVec.toNat_and, BitVec.toNat_ofNat]
  have : (BitVec.ofInt 8 15).toNat = 2 ^ 4 - 1 := by decide
  rw [this, Nat.and_two_pow_sub_one_eq_mod, wrap_u8]
  omega

set_option maxHeartbeats 400000 in
theorem take_any (a : Addr) (s : Crc.W) (c : Nat) (w : World) (hcc : c < 256) (hc : w.cell? a = some (.int .u32 s.toNat)) (hf : w.frozen? a = false) :
    Calls Try.prog 43 #[.pointer (some a), .int .u8 c] w fun e w' => e = .returned (.tuple #[]) ∧ Wr w w' a (.int .u32 (Crc.half (Crc.half s (c / 16)) (c % 16)).toNat) := by
  have hlow := low_nib c
  have e1 : ((c : Int) / 16).toNat = c / 16 := by omega
  have hn := Nat.mod_lt c (show 0 < 16 by omega)
  obtain ⟨b, o, spot⟩ := a
  obtain rfl : spot = none := World.cell?_spot hc
  have W1 := Wr.step (v := .int .u32 (Crc.half s (c / 16)).toNat) (.cells tabV 81) hc hf
  have W2 := Wr.step (v := .int .u32 (Crc.half (Crc.half s (c / 16)) (c % 16)).toNat) (.cells tabV 81) W1.cell W1.frozen
  have W3 := Lib.hid (W1.trans W2)
  have H1 := Lib.hid W1.cell
  have H2 := Lib.hid W1.frozen
  have E1 := Lib.hid e1
  generalize c % 16 = d at *
  clear W1 W2 e1
  go_enter Try.func43, Try.ntmps43
  go_wp2_with fail
  refine (half_int _ s _ _ hc hf (by omega) (by omega)).mono ?_
  rintro e w1 ⟨rfl, hw1⟩
  rw [E1.out] at hw1
  rw [← hw1] at W3 H1 H2
  have HW := Lib.hid hw1
  clear hw1
  go_wp2_with fail
  refine (half_int _ _ _ _ H1.out H2.out (by omega) (by omega)).mono ?_
  rintro e w2 ⟨rfl, hw2⟩
  rw [Int.toNat_natCast] at hw2
  rw [← hw2] at W3
  have HW2 := Lib.hid hw2
  clear hw2
  go_wp2_with fail
  go_end0
  exact ⟨rfl, W3.out⟩
end Go.Proofs.Ytoeofoihkkhpfaa
