/-
  PAGES: a block's stamp.
-/
import Derived.Test.YtoeofoihkkhpfaaPg4
namespace Go.Proofs.Ytoeofoihkkhpfaa
open Go.ChangeShapes Go.WideShapes Go.ChangeAt Go.RowKit Agg Pg

/-- a sector of no bytes -/
def sec0 : List Value := secC (0, List.replicate 32 0)
theorem sec0_size : sec0.toArray.size = 33 := by simp [sec0, secC, bv_length]
theorem blk_sec {w : World} {g : Nat} {t : TypeId} {b : List Sec} {r : List Value} (H : Blk w g t (blkC b ++ r)) (hl : Len32 b) (k : Nat) (hk : k < b.length) (i : Nat) (v : Value) (hv : (secC b[k])[i]? = some v) : w.cell? ⟨g, k * 33 + i, none⟩ = some v := by
  have h1 : i < 33 := by
    have := (List.getElem?_eq_some_iff.1 hv).1
    rwa [secC_length _ (hl _ (List.getElem_mem hk))] at this
  rw [H.cell, blkC_cell b hl k hk r i h1, hv]
theorem all_take_succ (b : List Sec) (p : Sec → Bool) (k : Nat) (h : k < b.length) : (b.take (k + 1)).all p = ((b.take k).all p && p b[k]) := by
  rw [List.take_succ_eq_append_getElem h, List.all_append]; simp
set_option maxHeartbeats 1000000 in
theorem every_any (b : List Sec) (h4 : b.length = 4) (hl : Len32 b) (g h n : Nat) (w : World) (hg : Blk w g 36 (blkC b)) (hh : Blk w h 25 [.int .u64 (n : Int)]) (r : Bool) (hr : (b.all fun s => s.1 == n) = r) :
    Calls Try.prog 37 #[.slice (some ⟨g, 0, none⟩) 4 4, .func (.func 38) #[] #[.pointer (some ⟨h, 0, none⟩)]] w fun e w' => e = .returned (.bool r) ∧ Below w.heap.size w w' := by
  have HG := Lib.hid hg
  have HH := Lib.hid hh
  have HR := Lib.hid hr
  have H4 := Lib.hid h4
  have HL := Lib.hid hl
  clear hg hh hr h4 hl
  have HB := Lib.hid (Below.refl w.heap.size w)
  go_enter Try.func37, Try.ntmps37
  go_wp2_with fail
  go_loopw [9] (fun i wr => ∃ k : Nat, k ≤ 4 ∧ i = .int .i64 k ∧ Below w.heap.size w wr ∧ (b.take k).all (fun s => s.1 == n) = true) (fun i _ => 4 - (intOf i).toNat)
  case atStart => exact ⟨0, by omega, rfl, HB.out, rfl⟩
  case round =>
    obtain ⟨k, hk, rfl, hb, htk⟩ := hrel
    replace HB := Lib.hid hb
    have HT := Lib.hid htk
    have HG2 := Lib.hid (HG.out.keep hb)
    have HH2 := Lib.hid (HH.out.keep hb)
    clear hb htk
    by_cases hlt : k < 4
    · have hkb : k < b.length := by rw [H4.out]; exact hlt
      have hc := blk_sec (r := []) (by rw [List.append_nil]; exact HG2.out) HL.out k hkb
      have h32 := HL.out _ (List.getElem_mem hkb)
      have h33 := secC_length _ h32
      have h1 := secC_one b[k]
      have HS := Lib.hid (all_take_succ b (fun s => s.1 == n) k hkb)
      have HI : Hid (b[k] ∈ b) := Lib.hid (List.getElem_mem hkb)
      generalize b[k] = s at *
      go_wp2_with (first
        | (refine Agg.gLoad 33 (secC s) rfl rfl rfl (by decide +kernel) h33 hc ?_; simp only [Act.put, List.setIfInBounds_toArray, List.set_cons_succ, List.set_cons_zero])
        | (refine Agg.allocRow 34 sec0.toArray rfl rfl (by kernel_rfl) ?_; simp only [Act.put, List.setIfInBounds_toArray, List.set_cons_succ, List.set_cons_zero])
        | (refine Agg.gStoreNew 33 (secC s) rfl rfl rfl rfl rfl rfl (by decide +kernel) h33 sec0_size h1 ?_; simp only [Act.put])
        | (refine Agg.gLoadB 33 (Blk.new _ _ (secC s).toArray) h33 rfl rfl rfl (by decide +kernel) ?_; simp only [Act.put, List.setIfInBounds_toArray, List.set_cons_succ, List.set_cons_zero]))
      clear hc h1
      refine Agg.calls_at fun w11 hw11 => ?_
      have hb : Below wr.heap.size wr w11 := by rw [hw11.out]; repeat (first | exact Below.refl _ _ | refine Agg.bel_drew ?_ | refine Agg.bel_alloc ?_ _)
      replace HB := Lib.hid (HB.out.trans (hb.mono HB.out.size))
      replace HG2 := Lib.hid (HG2.out.keep hb)
      replace HH2 := Lib.hid (HH2.out.keep hb)
      clear hb
      clear hw11
      by_cases hq : s.1 = n
      · have hqb : (s.1 == n) = true := by simp [hq]
        have HQ := Lib.hid hqb
        refine (clos_any s h32 h n w11 HH2.out true hqb).mono ?_
        rintro e w12 ⟨rfl, hb⟩
        replace HB := Lib.hid (HB.out.trans (hb.mono HB.out.size))
        replace HG2 := Lib.hid (HG2.out.keep hb)
        replace HH2 := Lib.hid (HH2.out.keep hb)
        clear hb
        clear hqb hq h32 h33
        go_wp2_with fail
        go_roundw
        case rel => exact ⟨k + 1, by omega, by go_num, HB.out, by rw [HS.out, HT.out, HQ.out]; rfl⟩
        case measure => simp [intOf]; omega
      · have hqb : (s.1 == n) = false := by simpa using hq
        have HF : Hid (r = false) := by
          show _ = _
          rw [← HR.out, Bool.eq_false_iff]
          intro hall
          rw [List.all_eq_true] at hall
          have := hall s HI.out
          rw [hqb] at this; cases this
        refine (clos_any s h32 h n w11 HH2.out false hqb).mono ?_
        rintro e wz ⟨rfl, hb⟩
        replace HB := Lib.hid (HB.out.trans (hb.mono HB.out.size))
        clear hb hqb hq h32 h33
        go_wp2_with fail
        go_ret
        exact ⟨by rw [HF.out]; rfl, HB.out⟩
    · obtain rfl : k = 4 := by omega
      have HF : Hid (r = true) := by
        show _ = _
        have h1 := HT.out
        rw [List.take_of_length_le (by rw [H4.out]; exact Nat.le_refl _)] at h1
        rw [← HR.out, h1]
      go_wp2_with fail
      go_ret
      exact ⟨by rw [HF.out]; rfl, HB.out⟩
/-- a box's world -/
theorem st0_get {b : List Sec} (h : 0 < b.length) : st0 b = b[0].1 := by
  cases b with
  | nil => simp at h
  | cons s r => rfl
set_option maxHeartbeats 1000000 in
theorem stamp_any (b : List Sec) (hb : BOk b) (w : World) (q : Bool) (hq : stampB b = q) :
    Calls Try.prog 21 #[.agg (blkC b).toArray] w fun e w' => e = .returned (.tuple #[.int .u64 ((if q then st0 b else 0 : Nat) : Int), .bool q]) ∧ Below w.heap.size w w' := by
  have h4 := hb.1
  have hl := hb.len
  have hc : (w.alloc (.cells (blkC b).toArray 36)).cell? ⟨w.heap.size, 0, none⟩ = some (.int .u64 (st0 b : Int)) := by
    rw [(Blk.new w 36 (blkC b).toArray).cell 0]
    have := blkC_stamp b hl 0 (by omega) []
    rw [List.append_nil] at this
    rw [st0_get (by omega)]; simpa using this
  have HL := Lib.hid hl
  have H4 := Lib.hid h4
  have hg : Blk (w.alloc (.cells (blkC b).toArray 36)) w.heap.size 36 (blkC b) := Blk.new w 36 (blkC b).toArray
  have HQ : Hid ((decide (stampP (st0 b)) && b.all fun s => s.1 == st0 b) = q) := Lib.hid hq
  have HG := Lib.hid hg
  clear hb h4 hl hg hq
  generalize st0 b = n at *
  have HB := Lib.hid (Below.refl w.heap.size w)
  go_enter Try.func21, Try.ntmps21
  go_wp2_with fail
  refine Agg.calls_at fun w1 hw1 => ?_
  have hb : Below w.heap.size w w1 := by rw [hw1.out]; repeat (first | exact Below.refl _ _ | refine Agg.bel_drew ?_ | refine Agg.bel_alloc ?_ _)
  replace HB := Lib.hid (HB.out.trans (hb.mono HB.out.size))
  clear hb
  have HGB : Hid (Blk w1 w.heap.size 36 (blkC b)) := by show Blk _ _ _ _; rw [hw1.out]; exact HG.out.al _
  have HN : Hid (Blk w1 (w.heap.size + 1) 25 [.int .u64 (n : Int)]) := by show Blk _ _ _ _; rw [hw1.out]; exact Blk.newAt (w.alloc _) 25 #[.int .u64 (n : Int)] _ (by simp)
  clear hw1 HG hc
  by_cases hp : stampP n
  · have hd : decide (stampP n) = true := by simp [hp]
    have HE : Hid ((b.all fun s => s.1 == n) = q) := by show _ = _; rw [← HQ.out, hd]; simp
    refine (stampIs_any n w1 true hd).mono ?_
    rintro e w2 ⟨rfl, hb⟩
    replace HB := Lib.hid (HB.out.trans (hb.mono HB.out.size))
    replace HGB := Lib.hid (HGB.out.keep hb)
    replace HN := Lib.hid (HN.out.keep hb)
    clear hb
    clear hd hp
    have xHN_0 := HN.out.cell 0
    have lHN := HN.out.lt
    simp only [List.getElem?_cons_zero] at xHN_0
    go_wp2_with fail
    clear xHN_0 lHN
    refine (every_any b H4.out HL.out _ _ n w2 HGB.out HN.out q HE.out).mono ?_
    rintro e w3 ⟨rfl, hb⟩
    replace HB := Lib.hid (HB.out.trans (hb.mono HB.out.size))
    replace HGB := Lib.hid (HGB.out.keep hb)
    replace HN := Lib.hid (HN.out.keep hb)
    clear hb
    by_cases hq : q = true
    · subst hq
      have xx := HN.out.cell 0
      simp only [List.getElem?_cons_zero] at xx
      have lx := HN.out.lt
      go_wp2_with fail
      go_ret2
      exact ⟨rfl, HB.out⟩
    · obtain rfl : q = false := by simpa using hq
      clear hq
      go_wp2_with fail
      go_ret2
      exact ⟨rfl, HB.out⟩
  · have hd : decide (stampP n) = false := by simp [hp]
    obtain rfl : q = false := by rw [← HQ.out, hd]; simp
    refine (stampIs_any n w1 false hd).mono ?_
    rintro e w4 ⟨rfl, hb⟩
    replace HB := Lib.hid (HB.out.trans (hb.mono HB.out.size))
    replace HGB := Lib.hid (HGB.out.keep hb)
    replace HN := Lib.hid (HN.out.keep hb)
    clear hb
    clear hd hp
    go_wp2_with fail
    go_ret2
    exact ⟨rfl, HB.out⟩
end Go.Proofs.Ytoeofoihkkhpfaa
