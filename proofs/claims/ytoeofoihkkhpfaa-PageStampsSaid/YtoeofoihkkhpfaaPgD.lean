/-
  PAGES: the document's Stamp and Mix.
-/
import Derived.Test.YtoeofoihkkhpfaaPgC
namespace Go.Proofs.Ytoeofoihkkhpfaa
open Go.ChangeShapes Go.WideShapes Go.ChangeAt Go.RowKit Agg Pg

set_option maxHeartbeats 2000000 in
set_option maxRecDepth 100000 in
theorem rStamp_any (b : List Sec) (hb : BOk b) (w : World) (q : Bool) (hq : stampB b = q) :
    Calls Try.prog 22 #[.agg (blkC b).toArray] w fun e w' => e = .returned (.tuple #[.int .u64 ((if q then st0 b else 0 : Nat) : Int), .bool q]) ∧ Below w.heap.size w w' := by
  have HBO := Lib.hid hb
  have hg : Blk (w.alloc (.cells (blkC b).toArray 36)) w.heap.size 36 (blkC b) := Blk.new w 36 (blkC b).toArray
  have HQ : Hid ((decide (stampP (st0 b)) && b.all fun s => s.1 == st0 b) = q) := Lib.hid hq
  have HG := Lib.hid hg
  clear hb hg hq
  have HST := Lib.hid (st0_get (b := b) (by have := HBO.out.1; omega))
  generalize st0 b = n at *
  have HB := Lib.hid (Below.refl w.heap.size w)
  go_enter Try.func22, Try.ntmps22
  go_wp2_with fail
  refine Agg.wp_at fun w1 hw1 => ?_
  have hb : Below w.heap.size w w1 := by rw [hw1.out]; repeat (first | exact Below.refl _ _ | refine Agg.bel_drew ?_ | refine Agg.bel_alloc ?_ _)
  replace HB := Lib.hid (HB.out.trans (hb.mono HB.out.size))
  clear hb
  have H1 : Hid (Blk w1 w.heap.size 36 (blkC b)) := by show Blk _ _ _ _; rw [hw1.out]; exact HG.out
  clear hw1 HG
  go_loopw [4] (fun i wr => ∃ k : Nat, 1 ≤ k ∧ k ≤ 4 ∧ i = .int .i64 k ∧ Below w1.heap.size w1 wr ∧ (b.take k).all (fun s => s.1 == n) = true) (fun i _ => 4 - (intOf i).toNat)
  case atStart =>
    refine ⟨1, by omega, by omega, rfl, Below.refl _ _, ?_⟩
    rw [all_take_succ b _ 0 (by have := HBO.out.1; omega), HST.out]; simp
  case round =>
    obtain ⟨k, hk1, hk, rfl, hb, htk⟩ := hrel
    have HT := Lib.hid htk
    have HK : Hid (From w1 wr) := Lib.hid hb
    clear htk
    have hb := hb
    replace HB := Lib.hid (HB.out.trans (hb.mono HB.out.size))
    replace H1 := Lib.hid (H1.out.keep hb)
    clear hb
    by_cases hlt : k < 4
    · have hkb : k < b.length := by rw [HBO.out.1]; exact hlt
      have hel := blkC_stamp b HBO.out.len k hkb []
      rw [List.append_nil] at hel
      have he0 := blkC_stamp b HBO.out.len 0 (by omega) []
      rw [List.append_nil, ← HST.out] at he0
      have HS := Lib.hid (all_take_succ b (fun s => s.1 == n) k hkb)
      have HM : Hid (b[k] ∈ b) := Lib.hid (List.getElem_mem hkb)
      have hc1 : wr.cell? ⟨w.heap.size, 0 + (k : Int).toNat * 33, none⟩ = some (.int .u64 (b[k].1 : Int)) := by rw [H1.out.cell, Nat.zero_add, Int.toNat_natCast]; exact hel
      have hc0 : wr.cell? ⟨w.heap.size, 0 + (0 : Int).toNat * 33, none⟩ = some (.int .u64 (n : Int)) := by rw [H1.out.cell]; exact he0
      clear hel he0
      generalize b[k] = s at *
      have hq2 : ((s.1 : Int) != (n : Int)) = decide (s.1 ≠ n) := by
        by_cases h : s.1 = n <;> simp [h, Int.ofNat_inj]
      go_upto_region 4 with (fail)
      refine Agg.chainR 8 (by kernel_rfl) (by kernel_rfl) ?_
      simp only [List.take_succ_cons, List.take_zero, List.drop_succ_cons, List.drop_zero]
      refine Agg.chMove rfl rfl rfl rfl ?_
      refine Agg.chIAA aiB (by omega) (by omega) rfl rfl rfl rfl rfl ?_
      refine Agg.chFA (by first | exact fo_Page_0 | exact fo_Sec_0) rfl rfl rfl rfl ?_
      refine Agg.chLoad rfl rfl rfl rfl (by decide +kernel) hc1 ?_
      refine Agg.chIAA aiB (by omega) (by omega) rfl rfl rfl rfl rfl ?_
      refine Agg.chFA (by first | exact fo_Page_0 | exact fo_Sec_0) rfl rfl rfl rfl ?_
      refine Agg.chLoad rfl rfl rfl rfl (by decide +kernel) hc0 ?_
      refine Agg.chNe (decide (s.1 ≠ n)) hq2 rfl rfl rfl rfl rfl ?_
      refine Agg.chEnd ?_
      intro vs w11 hb _
      refine Agg.wpNil ?_
      simp only [List.reverse, List.reverseAux, Agg.fill, List.set_cons_succ, List.set_cons_zero]
      replace HB := Lib.hid (HB.out.trans (hb.mono HB.out.size))
      replace H1 := Lib.hid (H1.out.keep hb)
      replace HK := Lib.hid (HK.out.keep hb)
      clear hb
      clear hc1 hc0 hq2
      by_cases hq : s.1 = n
      · have hqb : decide (s.1 ≠ n) = false := by simp [hq]
        rw [hqb]
        have hw3 : (s.1 == n) = true := by simp [hq]
        have HW3 := Lib.hid hw3
        clear hqb hw3 hq
        go_wp2_with fail
        go_roundw
        case rel => exact ⟨k + 1, by omega, by omega, by go_num, HK.out, by rw [HS.out, HT.out, HW3.out]; rfl⟩
        case measure => simp [intOf]; omega
      · have hqb : decide (s.1 ≠ n) = true := by simp [hq]
        rw [hqb]
        have HF : Hid (q = false) := by
          show _ = _
          rw [← HQ.out, Bool.and_eq_false_iff, Bool.eq_false_iff, Bool.eq_false_iff]
          right
          intro hall
          rw [List.all_eq_true] at hall
          have := hall s HM.out
          exact hq (by simpa using this)
        obtain rfl := HF.out
        clear hqb hq
        go_wp2_with fail
        go_ret2
        exact ⟨rfl, HB.out⟩
    · obtain rfl : k = 4 := by omega
      have hall : (b.all fun s => s.1 == n) = true := by
        have h1 := HT.out
        rwa [List.take_of_length_le (by rw [HBO.out.1]; exact Nat.le_refl _)] at h1
      have he0 := blkC_stamp b HBO.out.len 0 (by have := HBO.out.1; omega) []
      rw [List.append_nil, ← HST.out] at he0
      have HE0 := Lib.hid he0
      clear he0
      have HC0 : Hid (∀ w', Blk w' w.heap.size 36 (blkC b) → w'.cell? ⟨w.heap.size, 0, none⟩ = some (.int .u64 (n : Int))) := by
        refine Lib.hid (fun w' h => ?_)
        rw [h.cell]; simpa using HE0.out
      have hc0 := HC0.out wr H1.out
      have HQ2 : Hid (decide (stampP n) = q) := by show _ = _; rw [← HQ.out, hall]; simp
      clear hall
      go_wp2_with fail
      clear hc0
      refine (stamped_any n wr q HQ2.out).mono ?_
      rintro e w12 ⟨rfl, hb⟩
      replace HB := Lib.hid (HB.out.trans (hb.mono HB.out.size))
      replace H1 := Lib.hid (H1.out.keep hb)
      replace HK := Lib.hid (HK.out.keep hb)
      clear hb
      have hc0 := HC0.out w12 H1.out
      cases q
      · go_wp2_with fail
        go_ret2
        exact ⟨rfl, HB.out⟩
      · go_wp2_with fail
        go_ret2
        exact ⟨rfl, HB.out⟩
end Go.Proofs.Ytoeofoihkkhpfaa
