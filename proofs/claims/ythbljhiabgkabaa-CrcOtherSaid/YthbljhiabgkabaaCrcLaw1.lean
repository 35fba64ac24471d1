/-
  THE WALKS OF LAYER 15's STATEMENTS (crc), first part: CrcFar, CrcZeros, CrcJoins.
-/
import Derived.Test.YthbljhiabgkabaaCrcWake
namespace Go.Proofs.Ythbljhiabgkabaa
open Go.ChangeShapes Go.WideShapes Go.ChangeAt Go.RowKit Agg

theorem u32_bv {z : Int} (h : (Lit.int .u32 z).wf = true) : ∃ s : Crc.W, z = (s.toNat : Int) := by
  simp only [Lit.wf, Bool.and_eq_true, IntKind.min, IntKind.max, IntKind.signed, IntKind.bits] at h
  have h0 : 0 ≤ z := by simpa using h.1
  have h1 : z ≤ 4294967295 := by simpa using h.2
  refine ⟨BitVec.ofNat 32 z.toNat, ?_⟩
  rw [BitVec.toNat_ofNat]; omega
theorem i64_range {z : Int} (h : (Lit.int .i64 z).wf = true) : -9223372036854775808 ≤ z ∧ z ≤ 9223372036854775807 := by
  simp only [Lit.wf, Bool.and_eq_true, decide_eq_true_eq, IntKind.min, IntKind.max, IntKind.signed, IntKind.bits] at h
  exact ⟨by simpa using h.1, by simpa using h.2⟩

theorem u64_mod (z : Int) : ∃ n : Nat, n < 549755813888 ∧ wrap64 ((IntKind.u64.wrap z).tmod 549755813888) = (n : Int) := by
  have h0 : 0 ≤ IntKind.u64.wrap z := by simp [IntKind.wrap, IntKind.bits, IntKind.signed]; omega
  rw [Int.tmod_eq_emod_of_nonneg h0]
  have h2 : 0 ≤ IntKind.u64.wrap z % 549755813888 := Int.emod_nonneg _ (by omega)
  have h1 : IntKind.u64.wrap z % 549755813888 < 549755813888 := Int.emod_lt_of_pos _ (by omega)
  refine ⟨(IntKind.u64.wrap z % 549755813888).toNat, by omega, ?_⟩
  rw [IntWalk.wrap64_in _ (by omega)]; omega

set_option maxHeartbeats 1000000 in
theorem CrcFar_walk (a0 a1 a2 : Int) (w : World) (h0 : (Lit.int .u32 a0).wf = true) (_ : (Lit.int .i64 a1).wf = true) (_ : (Lit.int .i64 a2).wf = true) :
    Calls Try.prog 5 #[.int .u32 a0, .int .i64 a1, .int .i64 a2] w fun e w' => e = .returned (.bool true) ∧ Below w.heap.size w w' := by
  obtain ⟨s, rfl⟩ := u32_bv h0
  clear h0
  obtain ⟨m, hm, em⟩ := u64_mod a1
  obtain ⟨n, hn, en⟩ := u64_mod a2
  have ha := Lib.hid (Crc.zeros_add s m n)
  have hs := Lib.hid (Crc.zeros_succ s m)
  have HB0 : Hid (Below w.heap.size w w) := Below.refl _ _
  go_enter Try.func5, Try.ntmps5
  go_wp2_with fail
  refine (wakes_any w).mono ?_
  rintro e w1 ⟨rfl, hb1⟩
  have HB1 := Lib.hid hb1
  clear hb1
  go_wp2_with fail
  refine (zeros_any s m w1 (by omega)).mono ?_
  rintro e w2 ⟨rfl, hb2⟩
  have HB2 := Lib.hid (HB1.out.trans (hb2.mono HB1.out.size))
  clear hb2
  go_wp2_with fail
  refine (zeros_any (Crc.zeros s m) n w2 (by omega)).mono ?_
  rintro e w3 ⟨rfl, hb3⟩
  have HB3 := Lib.hid (HB2.out.trans (hb3.mono HB2.out.size))
  clear hb3
  rw [ha.out]
  go_wp2_with fail
  have emn : (m : Int) + n = ((m + n : Nat) : Int) := by omega
  rw [emn]
  refine (zeros_any s (m + n) w3 (by omega)).mono ?_
  rintro e w4 ⟨rfl, hb4⟩
  have HB4 := Lib.hid (HB3.out.trans (hb4.mono HB3.out.size))
  clear hb4 emn
  go_wp2_with fail
  have em1 : (m : Int) + 1 = ((m + 1 : Nat) : Int) := by omega
  rw [em1]
  refine (zeros_any s (m + 1) w4 (by omega)).mono ?_
  rintro e w5 ⟨rfl, hb5⟩
  have HB5 := Lib.hid (HB4.out.trans (hb5.mono HB4.out.size))
  clear hb5 em1
  rw [hs.out]
  go_wp2_with fail
  refine (more_any (Crc.zeros s m) [0] _ _ (own_bytes (bytes_slice w5 #[.int .u8 0] [0] 1 rfl rfl (by decide) _ (Nat.le_refl _)) rfl) (by simp [maxLen])).mono ?_
  rintro e w6 ⟨rfl, hb6⟩
  have HB6 := Lib.hid ((HB5.out.alloc HB5.out.size (.cells #[.int .u8 0] 5)).trans (hb6.mono (by have := HB5.out.size; simp; omega)))
  clear hb6
  go_wp2_with fail
  go_ret
  exact ⟨rfl, HB6.out⟩
end Go.Proofs.Ythbljhiabgkabaa
