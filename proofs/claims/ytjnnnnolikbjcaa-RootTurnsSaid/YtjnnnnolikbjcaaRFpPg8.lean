/-
  PAGES: a block's stamp.
-/
import Derived.Laws.OwnMore
import Derived.Maps.AppendAt
import Derived.Test.YtjnnnnolikbjcaaRFpPg4
import Derived.Test.YtjnnnnolikbjcaaAgg2
section
namespace Go.Proofs.Ytjnnnnolikbjcaa
open Go.ChangeShapes Go.WideShapes Go.ChangeAt Go.RowKit Agg Pg

/-- a sector of no bytes -/
def sec0 : List Value := secC (0, List.replicate 32 0)
theorem sec0_size : sec0.toArray.size = 33 := by simp [sec0, secC, bv_length]
theorem blk_sec {w : World} {g : Nat} {t : TypeId} {b : List Sec} {r : List Value} (H : Blk w g t (blkC b ++ r)) (hl : Len32 b) (k : Nat) (hk : k < b.length) (i : Nat) (v : Value) (hv : (secC b[k])[i]? = some v) : w.cell? ⟨g, k * 33 + i, none⟩ = some v := by
  have h1 : i < 33 := by
    have := (List.getElem?_eq_some_iff.1 hv).1
    rwa [secC_length _ (hl _ (List.getElem_mem hk))] at this
  rw [H.cell, blkC_cell b hl k hk r i h1, hv]
theorem all_take_succ (b : List Sec) (p : Sec → Bool) (k : Nat) (h : k < b.length) : (b.take (k + 1)).all p = ((b.take k).all p && p b[k]) := by
  rw [List.take_succ_eq_append_getElem h, List.all_append]; simp
set_option maxHeartbeats 1000000 in
theorem every_any (b : List Sec) (h4 : b.length = 4) (hl : Len32 b) (g h n : Nat) (w : World) (hg : Blk w g 38 (blkC b)) (hh : Blk w h 23 [.int .u64 (n : Int)]) (r : Bool) (hr : (b.all fun s => s.1 == n) = r) :
    Calls Try.prog 90 #[.slice (some ⟨g, 0, none⟩) 4 4, .func (.func 91) #[] #[.pointer (some ⟨h, 0, none⟩)]] w fun e w' => e = .returned (.bool r) ∧ Below w.heap.size w w' := by
  have HG := Lib.hid hg
  have HH := Lib.hid hh
  have HR := Lib.hid hr
  have H4 := Lib.hid h4
  have HL := Lib.hid hl
  clear hg hh hr h4 hl
  have HB := Lib.hid (Below.refl w.heap.size w)
  go_enter Try.func90, Try.ntmps90
  go_wp2_with fail
  go_loopw [9] (fun i wr => ∃ k : Nat, k ≤ 4 ∧ i = .int .i64 k ∧ Below w.heap.size w wr ∧ (b.take k).all (fun s => s.1 == n) = true) (fun i _ => 4 - (intOf i).toNat)
  case atStart => exact ⟨0, by omega, rfl, HB.out, rfl⟩
  case round =>
    obtain ⟨k, hk, rfl, hb, htk⟩ := hrel
    replace HB := Lib.hid hb
    have HT := Lib.hid htk
    have HG2 := Lib.hid (HG.out.keep hb)
    have HH2 := Lib.hid (HH.out.keep hb)
    clear hb htk
    by_cases hlt : k < 4
    · have hkb : k < b.length := by rw [H4.out]; exact hlt
      have hc := blk_sec (r := []) (by rw [List.append_nil]; exact HG2.out) HL.out k hkb
      have h32 := HL.out _ (List.getElem_mem hkb)
      have h33 := secC_length _ h32
      have h1 := secC_one b[k]
      have HS := Lib.hid (all_take_succ b (fun s => s.1 == n) k hkb)
      have HI : Hid (b[k] ∈ b) := Lib.hid (List.getElem_mem hkb)
      generalize b[k] = s at *
      go_wp2_with (first
        | (refine Agg.gLoad 33 (secC s) rfl rfl rfl (by decide +kernel) h33 hc ?_; simp only [Act.put, List.setIfInBounds_toArray, List.set_cons_succ, List.set_cons_zero])
        | (refine Agg.allocRow 36 sec0.toArray rfl rfl (by kernel_rfl) ?_; simp only [Act.put, List.setIfInBounds_toArray, List.set_cons_succ, List.set_cons_zero])
        | (refine Agg.gStoreNew 33 (secC s) rfl rfl rfl rfl rfl rfl (by decide +kernel) h33 sec0_size h1 ?_; simp only [Act.put])
        | (refine Agg.gLoadB 33 (Blk.new _ _ (secC s).toArray) h33 rfl rfl rfl (by decide +kernel) ?_; simp only [Act.put, List.setIfInBounds_toArray, List.set_cons_succ, List.set_cons_zero]))
      clear hc h1
      refine Agg.calls_at fun w11 hw11 => ?_
      have hb : Below wr.heap.size wr w11 := by rw [hw11.out]; repeat (first | exact Below.refl _ _ | refine Agg.bel_drew ?_ | refine Agg.bel_alloc ?_ _)
      replace HB := Lib.hid (HB.out.trans (hb.mono HB.out.size))
      replace HG2 := Lib.hid (HG2.out.keep hb)
      replace HH2 := Lib.hid (HH2.out.keep hb)
      clear hb
      clear hw11
      by_cases hq : s.1 = n
      · have hqb : (s.1 == n) = true := by simp [hq]
        have HQ := Lib.hid hqb
        refine (clos_any s h32 h n w11 HH2.out true hqb).mono ?_
        rintro e w12 ⟨rfl, hb⟩
        replace HB := Lib.hid (HB.out.trans (hb.mono HB.out.size))
        replace HG2 := Lib.hid (HG2.out.keep hb)
        replace HH2 := Lib.hid (HH2.out.keep hb)
        clear hb
        clear hqb hq h32 h33
        go_wp2_with fail
        go_roundw
        case rel => exact ⟨k + 1, by omega, by go_num, HB.out, by rw [HS.out, HT.out, HQ.out]; rfl⟩
        case measure => simp [intOf]; omega
      · have hqb : (s.1 == n) = false := by simpa using hq
        have HF : Hid (r = false) := by
          show _ = _
          rw [← HR.out, Bool.eq_false_iff]
          intro hall
          rw [List.all_eq_true] at hall
          have := hall s HI.out
          rw [hqb] at this; cases this
        refine (clos_any s h32 h n w11 HH2.out false hqb).mono ?_
        rintro e wz ⟨rfl, hb⟩
        replace HB := Lib.hid (HB.out.trans (hb.mono HB.out.size))
        clear hb hqb hq h32 h33
        go_wp2_with fail
        go_ret
        exact ⟨by rw [HF.out]; rfl, HB.out⟩
    · obtain rfl : k = 4 := by omega
      have HF : Hid (r = true) := by
        show _ = _
        have h1 := HT.out
        rw [List.take_of_length_le (by rw [H4.out]; exact Nat.le_refl _)] at h1
        rw [← HR.out, h1]
      go_wp2_with fail
      go_ret
      exact ⟨by rw [HF.out]; rfl, HB.out⟩
/-- a box's world -/
theorem st0_get {b : List Sec} (h : 0 < b.length) : st0 b = b[0].1 := by
  cases b with
  | nil => simp at h
  | cons s r => rfl
set_option maxHeartbeats 1000000 in
theorem stamp_any (b : List Sec) (hb : BOk b) (w : World) (q : Bool) (hq : stampB b = q) :
    Calls Try.prog 83 #[.agg (blkC b).toArray] w fun e w' => e = .returned (.tuple #[.int .u64 ((if q then st0 b else 0 : Nat) : Int), .bool q]) ∧ Below w.heap.size w w' := by
  have h4 := hb.1
  have hl := hb.len
  have hc : (w.alloc (.cells (blkC b).toArray 38)).cell? ⟨w.heap.size, 0, none⟩ = some (.int .u64 (st0 b : Int)) := by
    rw [(Blk.new w 38 (blkC b).toArray).cell 0]
    have := blkC_stamp b hl 0 (by omega) []
    rw [List.append_nil] at this
    rw [st0_get (by omega)]; simpa using this
  have HL := Lib.hid hl
  have H4 := Lib.hid h4
  have hg : Blk (w.alloc (.cells (blkC b).toArray 38)) w.heap.size 38 (blkC b) := Blk.new w 38 (blkC b).toArray
  have HQ : Hid ((decide (stampP (st0 b)) && b.all fun s => s.1 == st0 b) = q) := Lib.hid hq
  have HG := Lib.hid hg
  clear hb h4 hl hg hq
  generalize st0 b = n at *
  have HB := Lib.hid (Below.refl w.heap.size w)
  go_enter Try.func83, Try.ntmps83
  go_wp2_with fail
  refine Agg.calls_at fun w1 hw1 => ?_
  have hb : Below w.heap.size w w1 := by rw [hw1.out]; repeat (first | exact Below.refl _ _ | refine Agg.bel_drew ?_ | refine Agg.bel_alloc ?_ _)
  replace HB := Lib.hid (HB.out.trans (hb.mono HB.out.size))
  clear hb
  have HGB : Hid (Blk w1 w.heap.size 38 (blkC b)) := by show Blk _ _ _ _; rw [hw1.out]; exact HG.out.al _
  have HN : Hid (Blk w1 (w.heap.size + 1) 23 [.int .u64 (n : Int)]) := by show Blk _ _ _ _; rw [hw1.out]; exact Blk.newAt (w.alloc _) 23 #[.int .u64 (n : Int)] _ (by simp)
  clear hw1 HG hc
  by_cases hp : stampP n
  · have hd : decide (stampP n) = true := by simp [hp]
    have HE : Hid ((b.all fun s => s.1 == n) = q) := by show _ = _; rw [← HQ.out, hd]; simp
    refine (stampIs_any n w1 true hd).mono ?_
    rintro e w2 ⟨rfl, hb⟩
    replace HB := Lib.hid (HB.out.trans (hb.mono HB.out.size))
    replace HGB := Lib.hid (HGB.out.keep hb)
    replace HN := Lib.hid (HN.out.keep hb)
    clear hb
    clear hd hp
    have xHN_0 := HN.out.cell 0
    have lHN := HN.out.lt
    simp only [List.getElem?_cons_zero] at xHN_0
    go_wp2_with fail
    clear xHN_0 lHN
    refine (every_any b H4.out HL.out _ _ n w2 HGB.out HN.out q HE.out).mono ?_
    rintro e w3 ⟨rfl, hb⟩
    replace HB := Lib.hid (HB.out.trans (hb.mono HB.out.size))
    replace HGB := Lib.hid (HGB.out.keep hb)
    replace HN := Lib.hid (HN.out.keep hb)
    clear hb
    by_cases hq : q = true
    · subst hq
      have xx := HN.out.cell 0
      simp only [List.getElem?_cons_zero] at xx
      have lx := HN.out.lt
      go_wp2_with fail
      go_ret2
      exact ⟨rfl, HB.out⟩
    · obtain rfl : q = false := by simpa using hq
      clear hq
      go_wp2_with fail
      go_ret2
      exact ⟨rfl, HB.out⟩
  · have hd : decide (stampP n) = false := by simp [hp]
    obtain rfl : q = false := by rw [← HQ.out, hd]; simp
    refine (stampIs_any n w1 false hd).mono ?_
    rintro e w4 ⟨rfl, hb⟩
    replace HB := Lib.hid (HB.out.trans (hb.mono HB.out.size))
    replace HGB := Lib.hid (HGB.out.keep hb)
    replace HN := Lib.hid (HN.out.keep hb)
    clear hb
    clear hd hp
    go_wp2_with fail
    go_ret2
    exact ⟨rfl, HB.out⟩
end Go.Proofs.Ytjnnnnolikbjcaa
end
section
/-
  PAGES: a block's bytes.
-/
namespace Go.Proofs.Ytjnnnnolikbjcaa
open Go.ChangeShapes Go.WideShapes Go.ChangeAt Go.RowKit Agg Pg

theorem bytesB_succ (b : List Sec) (k : Nat) (h : k < b.length) : bytesB (b.take (k + 1)) = bytesB (b.take k) ++ b[k].2 := by
  unfold bytesB
  rw [List.take_succ_eq_append_getElem h, List.flatMap_append]; simp
set_option maxHeartbeats 2000000 in
theorem whole_any (b : List Sec) (h4 : b.length = 4) (hl : Len32 b) (w : World) :
    Calls Try.prog 84 #[.agg (blkC b).toArray] w fun e w' => ∃ v, e = .returned v ∧ w'.ownsRow w.heap.size 5 1 v 128 (bv (bytesB b)) ∧ Below w.heap.size w w' := by
  have h132 : (blkC b).length = 132 := by rw [blkC_length b hl, h4]
  have H4 := Lib.hid h4
  have HL := Lib.hid hl
  have hg := Blk.new w 38 (blkC b).toArray
  clear h4 hl
  have HB := Lib.hid (Below.refl w.heap.size w)
  go_enter Try.func84, Try.ntmps84
  go_wp2_with (refine Agg.gLoadB 132 hg h132 rfl rfl rfl (by decide +kernel) ?_; simp only [Act.put, List.setIfInBounds_toArray, List.set_cons_succ, List.set_cons_zero])
  clear hg h132
  go_loopw [7, 3] (fun i v wr => ∃ k : Nat, k ≤ 4 ∧ i = .int .i64 k ∧ Below w.heap.size w wr ∧ wr.ownsRow w.heap.size 5 1 v (k * 32) (bv (bytesB (b.take k)))) (fun i _ _ => 4 - (intOf i).toNat)
  case atStart => exact ⟨0, by omega, rfl, bel_alloc HB.out _, World.ownsRow_nil _ _ _ _⟩
  case round =>
    obtain ⟨k, hk, rfl, hb, ho⟩ := hrel
    replace HB := Lib.hid hb
    have HO := Lib.hid ho
    obtain ⟨xa, ca, rfl, _, _⟩ := (ownSl ho).shape
    clear hb ho
    by_cases hlt : k < 4
    · have hkb : k < b.length := by rw [H4.out]; exact hlt
      have hel := blkC_sec b HL.out k hkb []
      rw [List.append_nil] at hel
      have h32 := HL.out _ (List.getElem_mem hkb)
      have h33 := secC_length _ h32
      have h1 := secC_one b[k]
      have HS := Lib.hid (bytesB_succ b k hkb)
      generalize b[k] = s at *
      have hob := HO.out.keep ((Below.refl _ wr).alloc (Nat.le_refl _) (.cells (secC s).toArray 36))
      have hsz := HB.out.size
      have hsl : SlR (wr.alloc (.cells (secC s).toArray 36)) (.slice (some ⟨wr.heap.size, 1, none⟩) 32 32) 1 32 (bv s.2) :=
        SlR.ofBlk (Blk.new wr 36 (secC s).toArray) 1 32 32 (bv s.2) (by show (bv s.2).take 32 = bv s.2; exact List.take_of_length_le (by rw [bv_length]; omega)) (by rw [bv_length, h32]) (Nat.le_refl _) (by decide)
      go_wp2_with (first
        | (refine Agg.gIndexRow aiB (by decide +kernel) (secC s) hlt hel rfl rfl rfl rfl ?_; simp only [Act.put, List.setIfInBounds_toArray, List.set_cons_succ, List.set_cons_zero])
        | (refine Agg.allocRow 36 sec0.toArray rfl rfl (by kernel_rfl) ?_; simp only [Act.put, List.setIfInBounds_toArray, List.set_cons_succ, List.set_cons_zero])
        | (refine Agg.gStoreNew 33 (secC s) rfl rfl rfl rfl rfl rfl (by decide +kernel) h33 sec0_size h1 ?_; simp only [Act.put])
        | (refine Agg.append2 ti25 _ _ rfl rfl w.heap.size rfl hob rfl hsl (bv_one s.2) (by unfold maxLen; omega) (by omega) (by simp only [World.size_alloc]; omega) ?_; intro v2 w2 ho2 hg2 _; simp only [Act.put, List.setIfInBounds_toArray, List.set_cons_succ, List.set_cons_zero]))
      have hbw : Below w.heap.size w w2 := (HB.out.alloc hsz _).trans (grown_below hg2 (by simp only [World.size_alloc]; omega) (own_block hob))
      rw [← bv_append, ← HS.out] at ho2
      go_roundw
      case rel => exact ⟨k + 1, by omega, by go_num, hbw, by rw [show (k + 1) * 32 = k * 32 + 32 by omega]; exact ho2⟩
      case measure => simp [intOf]; omega
    · obtain rfl : k = 4 := by omega
      go_wp2_with fail
      go_ret
      refine ⟨_, rfl, ?_, HB.out⟩
      have := HO.out
      rw [List.take_of_length_le (by rw [H4.out]; exact Nat.le_refl _)] at this
      exact this
end Go.Proofs.Ytjnnnnolikbjcaa
end
section
/-
  PAGES: mixtures of two blocks.
-/
namespace Go.Proofs.Ytjnnnnolikbjcaa
open Go.ChangeShapes Go.WideShapes Go.ChangeAt Go.RowKit Agg Pg

end Go.Proofs.Ytjnnnnolikbjcaa
end
section
/-
  PAGES: bytes that come to a block.
-/
namespace Go.Proofs.Ytjnnnnolikbjcaa
open Go.ChangeShapes Go.WideShapes Go.ChangeAt Go.RowKit Agg Pg

theorem fo_Laid_0 : Agg.fieldOff Try.prog 121 0 = some 0 := by kernel_rfl
theorem fo_Laid_1 : Agg.fieldOff Try.prog 121 1 = some 132 := by kernel_rfl
/-- the block to which so many sectors' bytes came -/
def secsTo (n : Nat) (l : List UInt8) (j : Nat) : List Sec := (List.range 4).map fun i => (n, if i < j then (l.drop (32 * i)).take 32 else List.replicate 32 0)
theorem secsTo_length (n : Nat) (l : List UInt8) (j : Nat) : (secsTo n l j).length = 4 := by simp [secsTo]
theorem secsTo_len (n : Nat) (l : List UInt8) (hl : l.length = 128) (j : Nat) : Len32 (secsTo n l j) := by
  intro s hs
  obtain ⟨i, hi, rfl⟩ := List.mem_map.1 hs
  have := List.mem_range.1 hi
  simp only
  split
  · rw [List.length_take, List.length_drop]; omega
  · simp
theorem secsTo_zero (n : Nat) (l : List UInt8) : secsTo n l 0 = List.replicate 4 (n, List.replicate 32 0) := rfl
theorem secsTo_all (n : Nat) (l : List UInt8) : secsTo n l 4 = secsOf n l := rfl
theorem secsTo_get (n : Nat) (l : List UInt8) (j i : Nat) (h : i < (secsTo n l j).length) : ((secsTo n l j)[i]).1 = n := by simp [secsTo]
theorem secsTo_set (n : Nat) (l : List UInt8) (j : Nat) (hj : j < 4) : (secsTo n l j).set j (n, (l.drop (32 * j)).take 32) = secsTo n l (j + 1) := by
  apply List.ext_getElem?
  intro i
  rw [List.getElem?_set]
  by_cases hi : j = i
  · subst hi
    simp only [secsTo, List.length_map, List.length_range, hj, if_true, List.getElem?_map, List.getElem?_range hj, Option.map_some]
    rw [if_pos (by omega)]
  · rw [if_neg hi]
    simp only [secsTo, List.getElem?_map]
    by_cases h4 : i < 4
    · simp only [List.getElem?_range h4, Option.map_some]
      congr 2
      by_cases hlt : i < j
      · simp [hlt, Nat.lt_succ_of_lt hlt]
      · simp [hlt, show ¬ i < j + 1 by omega]
    · rw [List.getElem?_eq_none (by simpa using h4)]; rfl
/-- the block, and how far it is -/
def putC (n : Nat) (l : List UInt8) (j : Nat) : List Value := blkC (secsTo n l j) ++ [.int .i64 ((32 * j : Nat) : Int)]
theorem putC_length (n : Nat) (l : List UInt8) (hl : l.length = 128) (j : Nat) : (putC n l j).length = 133 := by
  rw [putC, List.length_append, blkC_length _ (secsTo_len n l hl j), secsTo_length]; rfl
theorem putC_at (n : Nat) (l : List UInt8) (hl : l.length = 128) (j : Nat) : (putC n l j)[132]? = some (.int .i64 ((32 * j : Nat) : Int)) := by
  have h : (blkC (secsTo n l j)).length = 132 := by rw [blkC_length _ (secsTo_len n l hl j), secsTo_length]
  rw [putC, List.getElem?_append_right (by omega), h]; rfl
theorem putC_step (n : Nat) (l : List UInt8) (hl : l.length = 128) (j : Nat) (hj : j < 4) :
    spliced (spliced (putC n l j) (j * 33 + 1) (bv ((l.drop (32 * j)).take 32))) 132 [.int .i64 ((32 * j : Nat) + 32 : Int)] = putC n l (j + 1) := by
  have hd : ((l.drop (32 * j)).take 32).length = 32 := by rw [List.length_take, List.length_drop]; omega
  have hg : ((secsTo n l j)[j]'(by rw [secsTo_length]; exact hj)).1 = n := secsTo_get n l j j _
  have h := blkC_put _ (secsTo_len n l hl j) j (by rw [secsTo_length]; exact hj) _ hd [.int .i64 ((32 * j : Nat) : Int)]
  rw [hg, secsTo_set n l j hj] at h
  rw [putC, h]
  have h2 : (blkC (secsTo n l (j + 1))).length = 132 := by rw [blkC_length _ (secsTo_len n l hl (j + 1)), secsTo_length]
  have := spliced_mid (blkC (secsTo n l (j + 1))) [.int .i64 ((32 * j : Nat) : Int)] [] [.int .i64 ((32 * j : Nat) + 32 : Int)] 132 h2 rfl
  rw [List.append_nil, List.append_nil] at this
  rw [this, putC]
  congr 2
theorem opt_block {x y : Option Addr} {g n m c d : Nat} (e : y.map (·.block) = x.map (·.block)) (h : (Value.slice x n c).ownBlock ≠ some g) : (Value.slice y m d).ownBlock ≠ some g := by
  cases x <;> cases y <;> simp_all [Value.ownBlock]
set_option maxHeartbeats 4000000 in
set_option maxRecDepth 100000 in
theorem pgPut_any (n : Nat) (l : List UInt8) (hl : l.length = 128) (g r : Nat) (sv : Value) (w : World) (H : Blk w g 121 (putC n l 0)) (HR : w.cell? ⟨r, 0, none⟩ = some sv) (hrg : r ≠ g) (HS : Bytes w sv l) (hsg : sv.ownBlock ≠ some g) :
    Calls Try.prog 80 #[.pointer (some ⟨g, 0, none⟩), .slice (some ⟨r, 0, none⟩) 1 1] w fun e w' => (∃ v, e = .returned v) ∧ Blk w' g 121 (putC n l 4) ∧ w.grownBy w' (some g) := by
  obtain ⟨xs, cs, rfl, hc1, hc2⟩ := SlR.shape HS
  unfold maxLen at hc2
  have HH := Lib.hid H
  have HCR := Lib.hid HR
  have HSL := Lib.hid HS
  have HSG := Lib.hid hsg
  have HL := Lib.hid hl
  have hwr := block_lt_of_cell HR
  clear H HR HS hsg hl
  have HB := Lib.hid (Below.refl w.heap.size w)
  go_enter Try.func80, Try.ntmps80
  clear HB
  go_wp2_with fail
  go_loopw [9, 5, 6] (fun i _ _ wr => ((i = .int .i64 0 ∧ Blk wr g 121 (putC n l 0)) ∨ (i = .int .i64 1 ∧ Blk wr g 121 (putC n l 4))) ∧ w.grownBy wr (some g)) (fun i _ _ _ => 1 - (intOf i).toNat)
  case atStart => exact ⟨.inl ⟨rfl, HH.out⟩, World.grownBy.refl _ _⟩
  case round =>
    obtain ⟨hi, hgr⟩ := hrel
    obtain ⟨wo, hwo⟩ : ∃ x, x = wr := ⟨_, rfl⟩
    subst hwo
    rcases hi with ⟨rfl, hb⟩ | ⟨rfl, hb⟩
    · have HB := Lib.hid hb
      have HGR := Lib.hid hgr
      have hcr := hgr.cell HCR.out (by simpa using hrg)
      have HS2 := Lib.hid (SlR.grown HSL.out hgr (fun k hk => (by cases hk; exact HSG.out)))
      clear hb hgr
      go_wp2_with fail
      clear hcr
      go_loopw [5, 6] (fun b _ wi => ∃ j : Nat, j ≤ 4 ∧ ∃ y c, b = .slice y (128 - 32 * j) c ∧ SlR wi b 1 (128 - 32 * j) (bv (l.drop (32 * j))) ∧ b.ownBlock ≠ some g ∧ Blk wi g 121 (putC n l j) ∧ wo.grownBy wi (some g)) (fun b _ _ => match b with | .slice _ m _ => m | _ => 0)
      case atStart =>
        refine ⟨0, by omega, xs, cs, by rw [HL.out], ?_, HSG.out, HB.out, World.grownBy.refl _ _⟩
        have := HS2.out
        rw [HL.out] at this ⊢
        simpa using this
      case round =>
        obtain ⟨j, hj, y, c, rfl, hsl, hog, hb, hgw⟩ := hrel
        obtain ⟨wi, hwi⟩ : ∃ x, x = wr := ⟨_, rfl⟩
        subst hwi
        have HQ := Lib.hid hsl
        have HOG := Lib.hid hog
        have HP := Lib.hid hb
        have HGW := Lib.hid hgw
        obtain ⟨_, _, hsh, hm1, hm2⟩ := SlR.shape hsl
        simp only [Value.slice.injEq, true_and] at hsh
        obtain ⟨rfl, rfl⟩ := hsh
        unfold maxLen at hm2
        clear hsl hog hb hgw
        by_cases hlt : j < 4
        · have hcell : wi.cell? ⟨g, 132, none⟩ = some (.int .i64 ((32 * j : Nat) : Int)) := by rw [HP.out.cell]; exact putC_at n l HL.out j
          have hquo : ∀ w, (binOp .quo 3 (.int .i64 ((32 * j : Nat) : Int)) (.int .i64 32)).run Try.prog w = .ok (.int .i64 (j : Int)) w := by
            intro w
            have := run_quo (P := Try.prog) 3 (32 * j) 32 (by omega) (by decide) w
            rwa [Nat.mul_div_cancel_left j (by decide)] at this
          have hrem : ∀ w, (binOp .rem 3 (.int .i64 ((32 * j : Nat) : Int)) (.int .i64 32)).run Try.prog w = .ok (.int .i64 ((0 : Nat) : Int)) w := by
            intro w
            have := run_rem (P := Try.prog) 3 (32 * j) 32 (by decide) w
            rwa [Nat.mul_mod_right] at this
          have hgt : ((128 - 32 * j : Nat) : Int) > 0 := by omega
          go_upto_region 4 with (fail)
          have HB0 := HB
          have HB := Lib.hid (Below.refl wi.heap.size wi)
          refine Agg.chainR 17 (by kernel_rfl) (by kernel_rfl) ?_
          simp only [List.take_succ_cons, List.take_zero, List.drop_succ_cons, List.drop_zero]
          refine Agg.chMove rfl rfl rfl rfl ?_
          refine Agg.chMove rfl rfl rfl rfl ?_
          refine Agg.chNil rfl rfl rfl rfl ?_
          refine Agg.chFA (by first | exact fo_Page_1 | exact fo_Sec_1 | exact fo_Laid_1) rfl rfl rfl rfl ?_
          refine Agg.chLoad rfl rfl rfl rfl (by decide +kernel) hcell ?_
          refine Agg.chBin (v := .int .i64 (j : Int)) rfl rfl rfl rfl rfl (fun _ => rfl) (fun w => hquo w) ?_
          refine Agg.chNil rfl rfl rfl rfl ?_
          refine Agg.chFA (by first | exact fo_Page_0 | exact fo_Sec_0 | exact fo_Laid_0) rfl rfl rfl rfl ?_
          refine Agg.chIAA aiB (by omega) (by omega) rfl rfl rfl rfl rfl ?_
          refine Agg.chFA (by first | exact fo_Page_1 | exact fo_Sec_1 | exact fo_Laid_1) rfl rfl rfl rfl ?_
          refine Agg.chMove rfl rfl rfl rfl ?_
          refine Agg.chNil rfl rfl rfl rfl ?_
          refine Agg.chFA (by first | exact fo_Page_1 | exact fo_Sec_1 | exact fo_Laid_1) rfl rfl rfl rfl ?_
          refine Agg.chLoad rfl rfl rfl rfl (by decide +kernel) hcell ?_
          refine Agg.chBin (v := .int .i64 ((0 : Nat) : Int)) rfl rfl rfl rfl rfl (fun _ => rfl) (fun w => hrem w) ?_
          refine Agg.chSlA aiD 0 (by omega) rfl rfl rfl rfl rfl ?_
          refine Agg.chMove rfl rfl rfl rfl ?_
          refine Agg.chEnd ?_
          intro vs w41 hb hf
          simp only [List.reverse, List.reverseAux, Agg.Facts] at hf
          obtain _ := hf
          simp only [List.reverse, List.reverseAux, Agg.fill, List.set_cons_succ, List.set_cons_zero]
          have HP2 := HP.out.keep hb
          have HQ2 := HQ.out.keep hb
          have HGW2 := Lib.hid (grown_trans HGW.out (grown_bel (some g) hb))
          have hcl := putC_length n l HL.out j
          have hju : 0 + 0 + (j : Int).toNat * 33 + 1 + 0 * 1 = j * 33 + 1 := by simp
          clear hb hcell hquo hrem
          refine Agg.tCopyB ti25 _ _ rfl rfl rfl HP2 _ 32 32 rfl rfl HQ2 (bv_one _) 32 (by show 32 = min (128 - 32 * j) 32; omega) (by rw [hju, hcl]; omega) (fun w2 hb2 hg2 => ?_)
          rw [hju, ← bv_take] at hb2
          refine Agg.tAssign rfl rfl rfl ?_
          simp only [Agg.ev, List.getD_cons_zero, List.getD_cons_succ, List.set_cons_succ, List.set_cons_zero]
          refine Agg.wpNil ?_
          have HQ3 := SlR.grown HQ2 hg2 (fun k hk => (by cases hk; exact HOG.out))
          replace HGW2 := Lib.hid (grown_trans HGW2.out hg2)
          clear HP2 HQ2 hg2 hju
          have hc2 : w2.cell? ⟨g, 132, none⟩ = some (.int .i64 ((32 * j : Nat) : Int)) := by
            rw [hb2.cell]
            have hd : ((l.drop (32 * j)).take 32).length = 32 := by have := HL.out; rw [List.length_take, List.length_drop]; omega
            have h := blkC_put _ (secsTo_len n l HL.out j) j (by rw [secsTo_length]; exact hlt) _ hd [.int .i64 ((32 * j : Nat) : Int)]
            rw [putC, h]
            have h2 : (blkC ((secsTo n l j).set j (((secsTo n l j)[j]'(by rw [secsTo_length]; exact hlt)).1, (l.drop (32 * j)).take 32))).length = 132 := by
              rw [blkC_length _ (set_len (secsTo_len n l HL.out j) j _ hd), List.length_set, secsTo_length]
            rw [List.getElem?_append_right (by omega), h2]; rfl
          have hl2 : 132 + 1 ≤ (spliced (putC n l j) (j * 33 + 1) (bv ((l.drop (32 * j)).take 32))).length := by
            rw [spliced_length _ _ _ (by rw [bv_length, List.length_take, List.length_drop, hcl]; omega), hcl]; omega
          obtain ⟨y2, c2, hsl, HQ4, hyb⟩ := run_slice_bytes (P := Try.prog) ti25 HQ3 32 (by omega)
          have hw64 : IntKind.i64.wrap (((32 * j : Nat) : Int) + 32) = ((32 * j : Nat) : Int) + 32 := by rw [IntKind.wrap_i64]; omega
          have hst := putC_step n l HL.out j hlt
          clear hcl HQ3
          go_wp2_with (first
            | (refine Agg.gStoreCell 132 (.int .i64 (((32 * j : Nat) : Int) + 32)) hb2 rfl rfl rfl rfl rfl (by kernel_rfl) rfl hl2 rfl (fun w3 hb3 hg3 => ?_); clear hc2 hb2 hl2)
            | (refine Agg.gSlice (.slice y2 (128 - 32 * j - 32) c2) rfl rfl rfl rfl hsl ?_; simp only [Act.put, List.setIfInBounds_toArray, List.set_cons_succ, List.set_cons_zero]))
          rw [hst] at hb3
          have HQ5 := SlR.grown HQ4 hg3 (fun k hk => (by cases hk; exact opt_block hyb HOG.out))
          go_roundw
          case rel =>
            refine ⟨j + 1, by omega, y2, c2, by rw [show 128 - 32 * (j + 1) = 128 - 32 * j - 32 by omega], ?_, opt_block hyb HOG.out, hb3, grown_trans HGW2.out hg3⟩
            rw [show 128 - 32 * (j + 1) = 128 - 32 * j - 32 by omega, show 32 * (j + 1) = 32 * j + 32 by omega, ← List.drop_drop, bv_drop]
            exact HQ5
          case measure => show 128 - 32 * j - 32 < 128 - 32 * j; omega
        · obtain rfl : j = 4 := by omega
          go_wp2_with fail
          go_roundw
          case rel => exact ⟨.inr ⟨by go_num, HP.out⟩, grown_trans HGR.out HGW.out⟩
          case measure => simp [intOf]
    · go_wp2_with fail
      refine bodyPost_end (results_none rfl _ _ _) rfl ?_
      exact ⟨⟨_, rfl⟩, hb, hgr⟩
end Go.Proofs.Ytjnnnnolikbjcaa
end
