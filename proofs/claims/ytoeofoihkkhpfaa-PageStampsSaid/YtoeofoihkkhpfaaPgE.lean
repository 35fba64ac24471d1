/-
  PAGES: the document's Mix.
-/
import Derived.Test.YtoeofoihkkhpfaaPgD
namespace Go.Proofs.Ytoeofoihkkhpfaa
open Go.ChangeShapes Go.WideShapes Go.ChangeAt Go.RowKit Agg Pg

def mU (mask : Int) : Nat := (mask % 18446744073709551616).toNat
theorem mU_bit (mask : Int) (k : Nat) (hk : k < 4) : (mask / 2 ^ k) % 2 = 1 ↔ mU mask / 2 ^ k % 2 = 1 := by
  unfold mU
  have e : ((mask % 18446744073709551616).toNat : Int) = mask % 18446744073709551616 := by omega
  generalize (mask % 18446744073709551616).toNat = u at *
  rcases k with _ | _ | _ | _ | k
  · simp only [Int.pow_zero, Nat.pow_zero]; omega
  · simp only [Nat.zero_add, Int.pow_one, Nat.pow_one]; omega
  · simp only [Nat.zero_add, Nat.reduceAdd, Int.reducePow, Nat.reducePow]; omega
  · simp only [Nat.zero_add, Nat.reduceAdd, Int.reducePow, Nat.reducePow]; omega
  · omega
theorem half_pow (u k : Nat) : u / 2 ^ k / 2 = u / 2 ^ (k + 1) := by rw [Nat.div_div_eq_div_mul, ← Nat.pow_succ]
set_option maxHeartbeats 2000000 in
set_option maxRecDepth 100000 in
theorem rMix_any (old new : List Sec) (ho : BOk old) (hn : BOk new) (mask : Int) (w : World) :
    Calls Try.prog 26 #[.agg (blkC old).toArray, .agg (blkC new).toArray, .int .i64 mask] w fun e w' => e = .returned (.agg (blkC (mixB old new mask)).toArray) ∧ Below w.heap.size w w' := by
  have HO := Lib.hid (And.intro ho.1 ho.len)
  have HN := Lib.hid (And.intro hn.1 hn.len)
  have HLN : Hid (∀ k, Len32 (mixTo old new mask k)) := Lib.hid (fun k s hs => (mixTo_mem old new ho.1 hn.1 mask k s hs).elim (ho.len s) (hn.len s))
  have HZ := Lib.hid (mixTo_zero old new ho.1 mask)
  have HBIT := Lib.hid (mU_bit mask)
  have hb1 := (Blk.new w 36 (blkC old).toArray).al (.cells (blkC new).toArray 36)
  have hb2 := Blk.newAt (w.alloc (.cells (blkC old).toArray 36)) 36 (blkC new).toArray (w.heap.size + 1) (by simp)
  clear ho hn
  have HB := Lib.hid (Below.refl w.heap.size w)
  go_enter Try.func26, Try.ntmps26
  go_wp2_with (refine Agg.allocRow 36 (blkC zeroB).toArray rfl rfl (by kernel_rfl) ?_; simp only [Act.put, List.setIfInBounds_toArray, List.set_cons_succ, List.set_cons_zero])
  rw [show IntKind.u64.wrap mask = ((mU mask / 2 ^ 0 : Nat) : Int) by rw [Nat.pow_zero, Nat.div_one, IntKind.wrap_u64]; unfold mU; omega]
  go_loopw [8, 7] (fun i v wr => ∃ k : Nat, k ≤ 4 ∧ i = .int .i64 k ∧ v = .int .u64 ((mU mask / 2 ^ k : Nat) : Int) ∧ Below w.heap.size w wr ∧ Blk wr w.heap.size 36 (blkC (mixTo old new mask k)) ∧ Blk wr (w.heap.size + 1) 36 (blkC new) ∧ Blk wr (w.heap.size + 2) 36 (blkC zeroB)) (fun i _ _ => 4 - (intOf i).toNat)
  case atStart =>
    refine ⟨0, by omega, rfl, rfl, bel_alloc (bel_alloc (bel_alloc HB.out _) _) _, ?_, hb2.al _, Blk.newAt _ 36 (blkC zeroB).toArray _ (by simp)⟩
    rw [HZ.out]; exact hb1.al _
  case round =>
    obtain ⟨k, hk, rfl, rfl, hb, hq1, hq2, hq3⟩ := hrel
    replace HB := Lib.hid hb
    have HM := Lib.hid hq1
    have HW := Lib.hid hq2
    have HR := Lib.hid hq3
    clear hb hq1 hq2 hq3 hb1 hb2
    by_cases hlt : k < 4
    · have hkn : k < new.length := by rw [HN.out.1]; exact hlt
      have HP := Lib.hid (half_pow (mU mask) k)
      have HY := Lib.hid (mixTo_yes old new HN.out.1 mask k hlt)
      have HNO := Lib.hid (mixTo_no old new mask k)
      have HBB := Lib.hid (HBIT.out k hlt)
      have HU : Hid (mU mask / 2 ^ k < 18446744073709551616) := Lib.hid (Nat.lt_of_le_of_lt (Nat.div_le_self _ _) (by unfold mU; omega))
      clear HBIT
      generalize mU mask / 2 ^ k = u at *
      by_cases hq : u % 2 = 1
      · have hqb : (u : Int) % 2 = 1 := by omega
        have HQ := Lib.hid (HBB.out.2 hq)
        have hc := blk_sec (r := []) (by rw [List.append_nil]; exact HW.out) HN.out.2 k hkn
        have h33 := secC_length _ (HN.out.2 _ (List.getElem_mem hkn))
        have h1 := secC_one new[k]
        have hset := blkC_set _ (HLN.out k) k (by rw [mixTo_length]; exact hlt) new[k] (HN.out.2 _ (List.getElem_mem hkn)) []
        rw [HY.out HQ.out, List.append_nil, List.append_nil] at hset
        have hml : (blkC (mixTo old new mask k)).length = 132 := by rw [blkC_length _ (HLN.out k), mixTo_length]
        have hfit : k * 33 + 33 ≤ (blkC (mixTo old new mask k)).length := by omega
        have hm := HM.out
        generalize new[k] = s at *
        clear hq
        go_wp2_with (first
          | (refine Agg.gLoad 33 (secC s) rfl rfl rfl (by decide +kernel) h33 hc ?_; simp only [Act.put, List.setIfInBounds_toArray, List.set_cons_succ, List.set_cons_zero])
          | (refine Agg.gStoreMid 33 (k * 33) (secC s) hm rfl rfl rfl rfl rfl (by decide +kernel) h33 hfit h1 (fun w2 hb2 hg2 => ?_); clear hm hc))
        rw [hset] at hb2
        have hbw := HB.out.trans (grown_below hg2 HB.out.size (fun j hj => (by cases hj; exact Nat.le_refl _)))
        have HW2 := Lib.hid (HW.out.grown hg2 (by omega))
        have HR2 := Lib.hid (HR.out.grown hg2 (by omega))
        clear hset h33 h1 hml hfit
        go_wp2_with fail
        go_roundw
        case rel => exact ⟨k + 1, by omega, by go_num, by (have := HU.out; rw [← HP.out, IntKind.wrap_u64]; congr 1; omega), hbw, hb2, HW2.out, HR2.out⟩
        case measure => simp [intOf]; omega
      · have hqb : (u : Int) % 2 = 0 := by omega
        have HQ : Hid (¬ mask / 2 ^ k % 2 = 1) := Lib.hid (fun h => hq (HBB.out.1 h))
        clear hq
        go_wp2_with fail
        go_roundw
        case rel => exact ⟨k + 1, by omega, by go_num, by (have := HU.out; rw [← HP.out, IntKind.wrap_u64]; congr 1; omega), HB.out, by rw [← HNO.out HQ.out]; exact HM.out, HW.out, HR.out⟩
        case measure => simp [intOf]; omega
    · obtain rfl : k = 4 := by omega
      have hm := HM.out
      have hr := HR.out
      rw [mixTo_all] at hm
      have hml : (blkC (mixB old new mask)).length = 132 := by rw [← mixTo_all, blkC_length _ (HLN.out 4), mixTo_length]
      have h1 := blkC_one (mixB old new mask)
      go_wp2_with (first
        | (refine Agg.gLoadB 132 hm hml rfl rfl rfl (by decide +kernel) ?_; simp only [Act.put, List.setIfInBounds_toArray, List.set_cons_succ, List.set_cons_zero])
        | (refine Agg.gStoreB 132 (blkC (mixB old new mask)) hr rfl rfl rfl rfl rfl (by decide +kernel) zero132 hml h1 (fun w2 hb2 hg2 => ?_)))
      refine bodyPost_ret (results_row1 (m := 132) rfl hb2 rfl (by decide +kernel) hml) rfl ⟨rfl, ?_⟩
      exact HB.out.trans (grown_below hg2 HB.out.size (fun j hj => (by cases hj; omega)))
end Go.Proofs.Ytoeofoihkkhpfaa
