/-
  PAGES: mixtures of two blocks.
-/
import Derived.Test.YtoeofoihkkhpfaaPg6
namespace Go.Proofs.Ytoeofoihkkhpfaa
open Go.ChangeShapes Go.WideShapes Go.ChangeAt Go.RowKit Agg Pg

theorem low_int (m : Int) : bits .and .i64 m 1 = m % 2 := by
  show IntKind.i64.wrap ((BitVec.ofInt 64 m &&& BitVec.ofInt 64 1).toNat : Int) = _
  have h1 : (BitVec.ofInt 64 1).toNat = 2 ^ 1 - 1 := by decide
  rw [BitVec.toNat_and, BitVec.toNat_ofInt, h1, Nat.and_two_pow_sub_one_eq_mod, IntKind.wrap_i64]
  omega
theorem run_shr_i64 {P : Program} (t : TypeId) (m : Int) (n : Nat) (hn : n < 64) (w : World) : (binOp .shr t (.int .i64 m) (.int .i64 (n : Int))).run P w = .ok (.int .i64 (m / 2 ^ n)) w := by
  have h0 : ¬ (n : Int) < 0 := by omega
  have e : Int.fdiv m (2 ^ n) = m / 2 ^ n := by
    have h2 : (0 : Int) ≤ 2 ^ n := Int.pow_nonneg (by decide)
    rw [Int.fdiv_eq_ediv_of_nonneg _ h2]
  have hb : min (n : Int).toNat IntKind.i64.bits = n := by simp [IntKind.bits]; omega
  simp only [binOp, Op.shift, h0, if_false, hb, Sem.run_pure, e]
theorem zero132 : (blkC zeroB).length = 132 := by rw [blkC_length _ zeroB_ok.2]; rfl
set_option maxHeartbeats 2000000 in
set_option maxRecDepth 100000 in
theorem mix_any (old new : List Sec) (ho4 : old.length = 4) (hol : Len32 old) (hn4 : new.length = 4) (hnl : Len32 new) (mask : Int) (w : World) :
    Calls Try.prog 25 #[.agg (blkC old).toArray, .agg (blkC new).toArray, .int .i64 mask] w fun e w' => e = .returned (.agg (blkC (mixB old new mask)).toArray) ∧ Below w.heap.size w w' := by
  have HO := Lib.hid (And.intro ho4 hol)
  have HN := Lib.hid (And.intro hn4 hnl)
  have HLN : Hid (∀ k, Len32 (mixTo old new mask k)) := Lib.hid (fun k s hs => (mixTo_mem old new ho4 hn4 mask k s hs).elim (hol s) (hnl s))
  have HZ := Lib.hid (mixTo_zero old new ho4 mask)
  have hb1 := (Blk.new w 36 (blkC old).toArray).al (.cells (blkC new).toArray 36)
  have hb2 := Blk.newAt (w.alloc (.cells (blkC old).toArray 36)) 36 (blkC new).toArray (w.heap.size + 1) (by simp)
  clear ho4 hol hn4 hnl
  have HB := Lib.hid (Below.refl w.heap.size w)
  go_enter Try.func25, Try.ntmps25
  go_wp2_with (refine Agg.allocRow 36 (blkC zeroB).toArray rfl rfl (by kernel_rfl) ?_; simp only [Act.put, List.setIfInBounds_toArray, List.set_cons_succ, List.set_cons_zero])
  go_loopw [8, 7] (fun i _ wr => ∃ k : Nat, k ≤ 4 ∧ i = .int .i64 k ∧ Below w.heap.size w wr ∧ Blk wr w.heap.size 36 (blkC (mixTo old new mask k)) ∧ Blk wr (w.heap.size + 1) 36 (blkC new) ∧ Blk wr (w.heap.size + 2) 36 (blkC zeroB)) (fun i _ _ => 4 - (intOf i).toNat)
  case atStart =>
    refine ⟨0, by omega, rfl, bel_alloc (bel_alloc (bel_alloc HB.out _) _) _, ?_, hb2.al _, Blk.newAt _ 36 (blkC zeroB).toArray _ (by simp)⟩
    rw [HZ.out]; exact hb1.al _
  case round =>
    obtain ⟨k, hk, rfl, hb, hq1, hq2, hq3⟩ := hrel
    replace HB := Lib.hid hb
    have HM := Lib.hid hq1
    have HW := Lib.hid hq2
    have HR := Lib.hid hq3
    clear hb hq1 hq2 hq3 hb1 hb2
    by_cases hlt : k < 4
    · have hkn : k < new.length := by rw [HN.out.1]; exact hlt
      have hsh := run_shr_i64 (P := Try.prog) 3 mask k (by omega)
      have hlo := low_int (mask / 2 ^ k)
      have HY := Lib.hid (mixTo_yes old new HN.out.1 mask k hlt)
      have HNO := Lib.hid (mixTo_no old new mask k)
      by_cases hq : mask / 2 ^ k % 2 = 1
      · have hqb : (mask / 2 ^ k % 2 == 1) = true := by simp [hq]
        have hc := blk_sec (r := []) (by rw [List.append_nil]; exact HW.out) HN.out.2 k hkn
        have h33 := secC_length _ (HN.out.2 _ (List.getElem_mem hkn))
        have h1 := secC_one new[k]
        have hset := blkC_set _ (HLN.out k) k (by rw [mixTo_length]; exact hlt) new[k] (HN.out.2 _ (List.getElem_mem hkn)) []
        rw [HY.out hq, List.append_nil, List.append_nil] at hset
        have hml : (blkC (mixTo old new mask k)).length = 132 := by rw [blkC_length _ (HLN.out k), mixTo_length]
        have hfit : k * 33 + 33 ≤ (blkC (mixTo old new mask k)).length := by omega
        have hm := HM.out
        generalize new[k] = s at *
        clear hq
        go_wp2_with (first
          | (refine Agg.gLoad 33 (secC s) rfl rfl rfl (by decide +kernel) h33 hc ?_; simp only [Act.put, List.setIfInBounds_toArray, List.set_cons_succ, List.set_cons_zero])
          | (refine Agg.gStoreMid 33 (k * 33) (secC s) hm rfl rfl rfl rfl rfl (by decide +kernel) h33 hfit h1 (fun w2 hb2 hg2 => ?_); clear hm hc))
        rw [hset] at hb2
        have hbw := HB.out.trans (grown_below hg2 HB.out.size (fun j hj => (by cases hj; exact Nat.le_refl _)))
        have HW2 := Lib.hid (HW.out.grown hg2 (by omega))
        have HR2 := Lib.hid (HR.out.grown hg2 (by omega))
        clear hset h33 h1 hml hfit hsh hlo
        go_wp2_with fail
        go_roundw
        case rel => exact ⟨k + 1, by omega, by go_num, hbw, hb2, HW2.out, HR2.out⟩
        case measure => simp [intOf]; omega
      · have hqb : (mask / 2 ^ k % 2 == 1) = false := by simpa using hq
        go_wp2_with fail
        go_roundw
        case rel => exact ⟨k + 1, by omega, by go_num, HB.out, by rw [← HNO.out hq]; exact HM.out, HW.out, HR.out⟩
        case measure => simp [intOf]; omega
    · obtain rfl : k = 4 := by omega
      have hm := HM.out
      have hr := HR.out
      rw [mixTo_all] at hm
      have hml : (blkC (mixB old new mask)).length = 132 := by rw [← mixTo_all, blkC_length _ (HLN.out 4), mixTo_length]
      have h1 := blkC_one (mixB old new mask)
      go_wp2_with (first
        | (refine Agg.gLoadB 132 hm hml rfl rfl rfl (by decide +kernel) ?_; simp only [Act.put, List.setIfInBounds_toArray, List.set_cons_succ, List.set_cons_zero])
        | (refine Agg.gStoreB 132 (blkC (mixB old new mask)) hr rfl rfl rfl rfl rfl (by decide +kernel) zero132 hml h1 (fun w2 hb2 hg2 => ?_)))
      refine bodyPost_ret (results_cell_row rfl _ _ (w.heap.size + 2) 36 (blkC (mixB old new mask)).toArray (0, 0) (.array 4 34) rfl hb2 (by kernel_rfl) rfl (by rw [List.size_toArray, hml]; kernel_rfl)) rfl ⟨rfl, ?_⟩
      exact HB.out.trans (grown_below hg2 HB.out.size (fun j hj => (by cases hj; omega)))
end Go.Proofs.Ytoeofoihkkhpfaa
