/-
  THE WALKS OF LAYER 15 (crc), third part: times, powers, Zeros, Join.
-/
import Derived.Test.YtoeofoihkkhpfaaCrcWalk
namespace Go.Proofs.Ytoeofoihkkhpfaa
open Go.ChangeShapes Go.WideShapes Go.ChangeAt Go.RowKit Agg

theorem bxor (s t : Crc.W) : bits .xor .u32 (s.toNat : Int) (t.toNat : Int) = ((s ^^^ t).toNat : Int) := by
  have := s.isLt; have := t.isLt
  rw [bits_xor .u32 _ _ rfl (by simpa [IntKind.bits] using s.isLt) (by simpa [IntKind.bits] using t.isLt), BitVec.toNat_xor]
theorem xt_hi (s : Crc.W) (h : s.toNat / 2147483648 = 1) : bits .xor .u32 ((s.toNat : Int) * 2 % 4294967296) 79764919 = ((Crc.xt s).toNat : Int) := by
  have hm : s.msb = true := by
    cases hb : s.msb
    · have := BitVec.msb_eq_false_iff_two_mul_lt.1 hb; omega
    · rfl
  have e : (s.toNat : Int) * (2 : Int) % (4294967296 : Int) = Int.ofNat (s <<< 1).toNat := by
    show _ = (((s <<< 1).toNat : Nat) : Int)
    rw [BitVec.toNat_shiftLeft, Nat.shiftLeft_eq]; omega
  have e2 : (79764919 : Int) = (Crc.poly.toNat : Int) := by decide
  rw [e, e2]
  show bits .xor .u32 (((s <<< 1).toNat : Nat) : Int) _ = _
  rw [bxor, Crc.xt, hm]; rfl
theorem xt_lo (s : Crc.W) (h : s.toNat / 2147483648 = 0) : (s.toNat : Int) * 2 % 4294967296 = ((Crc.xt s).toNat : Int) := by
  have hm : s.msb = false := BitVec.msb_eq_false_iff_two_mul_lt.2 (by omega)
  have e : (s.toNat : Int) * (2 : Int) % (4294967296 : Int) = Int.ofNat (s <<< 1).toNat := by
    show _ = (((s <<< 1).toNat : Nat) : Int)
    rw [BitVec.toNat_shiftLeft, Nat.shiftLeft_eq]; omega
  rw [e, Crc.xt, hm]; simp
theorem bit_and (b : Crc.W) (j : Nat) : bits .and .u32 ((b.toNat : Int) / 2 ^ j) 1 = if b.getLsbD j then 1 else 0 := by
  have hb := b.isLt
  have e : ((b.toNat : Int) / 2 ^ j) = ((b.toNat / 2 ^ j : Nat) : Int) := by rw [Int.natCast_ediv]; simp
  rw [e]
  show IntKind.u32.wrap ((BitVec.ofInt 32 ((b.toNat / 2 ^ j : Nat) : Int) &&& BitVec.ofInt 32 1).toNat : Int) = _
  have h1 : (BitVec.ofInt 32 1).toNat = 2 ^ 1 - 1 := by decide
  rw [BitVec.ofInt_natCast, BitVec.toNat_and, BitVec.toNat_ofNat, h1, Nat.and_two_pow_sub_one_eq_mod, wrap_u32]
  have h2 : b.toNat / 2 ^ j < 2 ^ 32 := Nat.lt_of_le_of_lt (Nat.div_le_self _ _) hb
  rw [Nat.mod_eq_of_lt h2, BitVec.getLsbD, Nat.testBit_eq_decide_div_mod_eq]
  by_cases h3 : b.toNat / 2 ^ j % 2 = 1
  · simp [h3]
  · have : b.toNat / 2 ^ j % 2 = 0 := by omega
    simp [this]

def pwV (i j : Nat) : Value := if j < i then .int .u32 (Crc.pw j).toNat else .int .u32 0
@[irreducible] def pwArr (i : Nat) : Array Value := ((List.range 41).map (pwV i)).toArray
theorem pwArr_size (i : Nat) : (pwArr i).size = 41 := by unfold pwArr; simp
theorem pwArr_one (i : Nat) : ∀ v ∈ (pwArr i).toList, v.oneCell' = true := by
  unfold pwArr
  intro v hv
  obtain ⟨j, _, rfl⟩ := List.mem_map.1 hv
  unfold pwV; split <;> rfl
theorem pwArr_zero : pwArr 0 = Array.replicate 41 (.int .u32 0) := by unfold pwArr; rfl
theorem pwArr_get (i j : Nat) (h : j < i) (hj : j < 41) : (pwArr i)[j]? = some (.int .u32 (Crc.pw j).toNat) := by
  unfold pwArr; simp [hj, pwV, h]
theorem pwArr_zero_get (i j : Nat) (h : ¬ j < i) (hj : j < 41) : (pwArr i)[j]? = some (.int .u32 0) := by
  unfold pwArr; simp [hj, pwV, h]
theorem pwArr_set (i : Nat) (hi : i < 41) : (pwArr i).setIfInBounds i (.int .u32 (Crc.pw i).toNat) = pwArr (i + 1) := by
  unfold pwArr
  rw [List.setIfInBounds_toArray]
  congr 1
  apply List.ext_getElem?
  intro j
  rw [List.getElem?_set]
  by_cases h : i = j
  · subst h; simp [hi, pwV]
  · simp only [h, if_false, List.getElem?_map]
    by_cases hj : j < 41
    · simp only [List.getElem?_range hj, Option.map_some, pwV]
      by_cases h2 : j < i
      · simp [h2, Nat.lt_succ_of_lt h2]
      · simp [h2, show ¬ j < i + 1 by omega]
    · simp [hj]

theorem low_bit (m : Nat) (hm : m < 2 ^ 62) : bits .and .i64 (m : Int) 1 = ((m % 2 : Nat) : Int) := by
  show IntKind.i64.wrap ((BitVec.ofInt 64 (m : Int) &&& BitVec.ofInt 64 1).toNat : Int) = _
  have h1 : (BitVec.ofInt 64 1).toNat = 2 ^ 1 - 1 := by decide
  have h2 : (m % 2 ^ 64) = m := Nat.mod_eq_of_lt (by omega)
  rw [BitVec.ofInt_natCast, BitVec.toNat_and, BitVec.toNat_ofNat, h1, Nat.and_two_pow_sub_one_eq_mod, h2]
  rw [IntKind.wrap_i64]; omega

theorem not_u32 (s : Crc.W) : bits .xor .u32 IntKind.u32.max (s.toNat : Int) = ((~~~ s).toNat : Int) := by
  have e : IntKind.u32.max = ((BitVec.allOnes 32).toNat : Int) := by decide
  rw [e, bxor, BitVec.allOnes_xor]
end Go.Proofs.Ytoeofoihkkhpfaa
