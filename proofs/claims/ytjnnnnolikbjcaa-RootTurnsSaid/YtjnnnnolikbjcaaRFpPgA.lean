/-
  PAGES: a page's block.
-/
import Derived.Test.YtjnnnnolikbjcaaRFpPg8
import Derived.Test.YtjnnnnolikbjcaaGood
section
namespace Go.Proofs.Ytjnnnnolikbjcaa
open Go.ChangeShapes Go.WideShapes Go.ChangeAt Go.RowKit Agg Pg

/-- the block whose first sectors are stamped -/
def stTo (n k : Nat) : List Sec := (List.range 4).map fun i => (if i < k then n else 0, List.replicate 32 0)
theorem stTo_length (n k : Nat) : (stTo n k).length = 4 := by simp [stTo]
theorem stTo_len (n k : Nat) : Len32 (stTo n k) := by
  intro s hs
  obtain ⟨i, _, rfl⟩ := List.mem_map.1 hs
  simp
theorem stTo_zero (n : Nat) : stTo n 0 = zeroB := rfl
theorem stTo_all (n : Nat) (l : List UInt8) : stTo n 4 = secsTo n l 0 := rfl
theorem stTo_set (n k : Nat) (hk : k < 4) (h : k < (stTo n k).length) : (stTo n k).set k (n, ((stTo n k)[k]).2) = stTo n (k + 1) := by
  apply List.ext_getElem?
  intro i
  rw [List.getElem?_set]
  by_cases hi : k = i
  · subst hi
    simp [stTo, hk]
  · rw [if_neg hi]
    simp only [stTo, List.getElem?_map]
    by_cases h4 : i < 4
    · simp only [List.getElem?_range h4, Option.map_some]
      congr 2
      by_cases hlt : i < k
      · simp [hlt, Nat.lt_succ_of_lt hlt]
      · simp [hlt, show ¬ i < k + 1 by omega]
    · rw [List.getElem?_eq_none (by simpa using h4)]; rfl
theorem pre_cells (kind : Int) (d : List UInt8) (h : d.length ≤ 120) :
    spliced (spliced (spliced (List.replicate 124 (Value.int .u8 0)) 0 [.int .u8 ((UInt8.ofNat kind.toNat).toNat : Int)]) 1 [.int .u8 ((UInt8.ofNat d.length).toNat : Int)]) 4 (bv d) = bv (pre kind d) := by
  have e : List.replicate 124 (Value.int .u8 0) = .int .u8 0 :: .int .u8 0 :: .int .u8 0 :: .int .u8 0 :: (List.replicate d.length (.int .u8 0) ++ List.replicate (120 - d.length) (.int .u8 0)) := by
    rw [List.replicate_append_replicate, show d.length + (120 - d.length) = 120 by omega]; rfl
  rw [e]
  have h1 : ∀ (x y : Value) (r : List Value), spliced (x :: r) 0 [y] = y :: r := fun x y r => by simp [spliced]
  have h2 : ∀ (x x' y : Value) (r : List Value), spliced (x :: x' :: r) 1 [y] = x :: y :: r := fun x x' y r => by simp [spliced]
  rw [h1, h2]
  have h3 := spliced_mid [.int .u8 ((UInt8.ofNat kind.toNat).toNat : Int), .int .u8 ((UInt8.ofNat d.length).toNat : Int), .int .u8 0, .int .u8 0] (List.replicate d.length (.int .u8 0)) (List.replicate (120 - d.length) (.int .u8 0)) (bv d) 4 rfl (by simp [bv_length])
  simp only [List.cons_append, List.nil_append] at h3
  rw [h3]
  simp [pre, bv]
theorem laid0_cells : (blkC zeroB ++ [Value.int .i64 0]).length = 133 := by rw [List.length_append, zero132]; rfl
/-- the error of Lay, or none -/
def layR (kind : Int) (d : List UInt8) (n : Nat) : List Sec × Int := if pageP kind d ∧ stampP n then (layB kind d n, 0) else (zeroB, 2)
set_option maxHeartbeats 4000000 in
set_option maxRecDepth 100000 in
theorem layBad_any (kind : Int) (d : List UInt8) (n : Nat) (dv : Value) (w : World) (hd : Bytes w dv d) (hp : ¬ (pageP kind d ∧ stampP n)) :
    Calls Try.prog 68 #[.agg #[.int .i64 kind, dv], .int .u64 (n : Int)] w fun e w' => e = .returned (.tuple #[.agg (blkC zeroB).toArray, .int .i64 2]) ∧ Below w.heap.size w w' := by
  obtain ⟨x, cap, rfl, hc, hm⟩ := SlR.shape hd
  have hc3 : cap ≤ 9223372036854775807 := by unfold maxLen at hm; omega
  have HD := Lib.hid hd
  have HZ0 : Hid (∀ v ∈ blkC zeroB, v.oneCell' = true) := Lib.hid (blkC_one _)
  have HP := Lib.hid hp
  clear hd hm hp
  have HB := Lib.hid (Below.refl w.heap.size w)
  go_enter Try.func68, Try.ntmps68
  go_wp2_with (first
    | (refine Agg.allocRow 38 (blkC zeroB).toArray rfl rfl (by kernel_rfl) ?_; simp only [Act.put, List.setIfInBounds_toArray, List.set_cons_succ, List.set_cons_zero]))
  refine Agg.calls_at fun w1 hw1 => ?_
  have hb : Below w.heap.size w w1 := by rw [hw1.out]; repeat (first | exact Below.refl _ _ | refine Agg.bel_drew ?_ | refine Agg.bel_alloc ?_ _)
  replace HB := Lib.hid (HB.out.trans (hb.mono HB.out.size))
  replace HD := Lib.hid (HD.out.keep hb)
  clear hb
  have HA : Hid (Blk w1 w.heap.size 92 [.int .i64 kind, .slice x d.length cap]) := by show Blk _ _ _ _; rw [hw1.out]; exact (Blk.new w 92 #[.int .i64 kind, .slice x d.length cap]).al _
  have HR : Hid (Blk w1 (w.heap.size + 1) 38 (blkC zeroB)) := by show Blk _ _ _ _; rw [hw1.out]; exact Blk.newAt (w.alloc _) 38 (blkC zeroB).toArray _ (by simp)
  clear hw1
  by_cases hp : pageP kind d
  · have hs : ¬ stampP n := fun h => HP.out ⟨hp, h⟩
    refine (check_any kind d _ w1 HD.out 0 (if_pos hp)).mono ?_
    rintro e w2 ⟨rfl, hb⟩
    replace HB := Lib.hid (HB.out.trans (hb.mono HB.out.size))
    replace HD := Lib.hid (HD.out.keep hb)
    replace HA := Lib.hid (HA.out.keep hb)
    replace HR := Lib.hid (HR.out.keep hb)
    clear hb
    go_wp2_with fail
    refine (stampIs_any n w2 false (by simp [hs])).mono ?_
    rintro e w3 ⟨rfl, hb⟩
    replace HB := Lib.hid (HB.out.trans (hb.mono HB.out.size))
    replace HD := Lib.hid (HD.out.keep hb)
    replace HA := Lib.hid (HA.out.keep hb)
    replace HR := Lib.hid (HR.out.keep hb)
    clear hb
    have hr := HR.out
    have h1 := HZ0.out
    go_wp2_with (first
      | (refine Agg.gBuild0 (.agg (blkC zeroB).toArray) rfl rfl (fun _ => by kernel_rfl) ?_; simp only [Act.put, List.setIfInBounds_toArray, List.set_cons_succ, List.set_cons_zero])
      | (refine Agg.gStoreB 132 (blkC zeroB) hr rfl rfl rfl rfl rfl (by decide +kernel) zero132 zero132 h1 (fun w2 hb2 hg2 => ?_)))
    refine bodyPost_ret (results_row2 rfl hb2 rfl (by decide +kernel) zero132) rfl ⟨rfl, ?_⟩
    exact HB.out.trans (grown_below hg2 HB.out.size (fun j hj => (by cases hj; omega)))
  · have hc2 := hp
    refine (check_any kind d _ w1 HD.out 2 (if_neg hp)).mono ?_
    rintro e w4 ⟨rfl, hb⟩
    replace HB := Lib.hid (HB.out.trans (hb.mono HB.out.size))
    replace HD := Lib.hid (HD.out.keep hb)
    replace HA := Lib.hid (HA.out.keep hb)
    replace HR := Lib.hid (HR.out.keep hb)
    clear hb
    have hr := HR.out
    have h1 := HZ0.out
    go_wp2_with (first
      | (refine Agg.gBuild0 (.agg (blkC zeroB).toArray) rfl rfl (fun _ => by kernel_rfl) ?_; simp only [Act.put, List.setIfInBounds_toArray, List.set_cons_succ, List.set_cons_zero])
      | (refine Agg.gStoreB 132 (blkC zeroB) hr rfl rfl rfl rfl rfl (by decide +kernel) zero132 zero132 h1 (fun w2 hb2 hg2 => ?_)))
    refine bodyPost_ret (results_row2 rfl hb2 rfl (by decide +kernel) zero132) rfl ⟨rfl, ?_⟩
    exact HB.out.trans (grown_below hg2 HB.out.size (fun j hj => (by cases hj; omega)))
/-- what is made: all noughts -/
theorem made_blk (w : World) (n : Nat) (g : Nat) (hg : g = w.heap.size) : Blk (w.alloc (.cells (madeCells (Value.cells (.int .u8 0)) (n * 1)) 5)) g 5 (List.replicate n (.int .u8 0)) := by
  have h := Blk.newAt w 5 (madeCells (Value.cells (.int .u8 0)) (n * 1)) g hg
  have e : (madeCells (Value.cells (.int .u8 0)) (n * 1)).toList = List.replicate n (.int .u8 0) := by
    apply List.ext_getElem?
    intro i
    simp only [madeCells, Value.cells, Nat.mul_one, List.getElem?_replicate]
    by_cases h : i < n
    · simp [h, Nat.mod_one]
    · simp [h]
  rwa [e] at h
set_option maxHeartbeats 8000000 in
set_option maxRecDepth 100000 in
theorem layOk_any (kind : Int) (d : List UInt8) (n : Nat) (dv : Value) (w : World) (hd : Bytes w dv d) (hp : pageP kind d) (hn : stampP n) :
    Calls Try.prog 68 #[.agg #[.int .i64 kind, dv], .int .u64 (n : Int)] w fun e w' => e = .returned (.tuple #[.agg (blkC (layB kind d n)).toArray, .int .i64 0]) ∧ Below w.heap.size w w' := by
  obtain ⟨x, cap, rfl, hc, hm⟩ := SlR.shape hd
  have hc3 : cap ≤ 9223372036854775807 := by unfold maxLen at hm; omega
  have HD := Lib.hid hd
  have HDw := Lib.hid hd
  have HP := Lib.hid hp
  have HN := Lib.hid hn
  clear hd hm hp hn
  have HB := Lib.hid (Below.refl w.heap.size w)
  go_enter Try.func68, Try.ntmps68
  go_wp2_with (first
    | (refine Agg.allocRow 38 (blkC zeroB).toArray rfl rfl (by kernel_rfl) ?_; simp only [Act.put, List.setIfInBounds_toArray, List.set_cons_succ, List.set_cons_zero]))
  refine Agg.calls_at fun w1 hw1 => ?_
  have hb : Below w.heap.size w w1 := by rw [hw1.out]; repeat (first | exact Below.refl _ _ | refine Agg.bel_drew ?_ | refine Agg.bel_alloc ?_ _)
  replace HB := Lib.hid (HB.out.trans (hb.mono HB.out.size))
  replace HD := Lib.hid (HD.out.keep hb)
  clear hb
  have HA : Hid (Blk w1 w.heap.size 92 [.int .i64 kind, .slice x d.length cap]) := by show Blk _ _ _ _; rw [hw1.out]; exact (Blk.new w 92 #[.int .i64 kind, .slice x d.length cap]).al _
  have HR : Hid (Blk w1 (w.heap.size + 1) 38 (blkC zeroB)) := by show Blk _ _ _ _; rw [hw1.out]; exact Blk.newAt (w.alloc _) 38 (blkC zeroB).toArray _ (by simp)
  clear hw1
  refine (check_any kind d _ w1 HD.out 0 (if_pos HP.out)).mono ?_
  rintro e w2 ⟨rfl, hb⟩
  replace HB := Lib.hid (HB.out.trans (hb.mono HB.out.size))
  replace HD := Lib.hid (HD.out.keep hb)
  replace HA := Lib.hid (HA.out.keep hb)
  replace HR := Lib.hid (HR.out.keep hb)
  clear hb
  go_wp2_with fail
  refine (stampIs_any n w2 true (by simp [HN.out])).mono ?_
  rintro e w3 ⟨rfl, hb⟩
  replace HB := Lib.hid (HB.out.trans (hb.mono HB.out.size))
  replace HD := Lib.hid (HD.out.keep hb)
  replace HA := Lib.hid (HA.out.keep hb)
  replace HR := Lib.hid (HR.out.keep hb)
  clear hb
  have hcs := HB.out.size
  have hca := HA.out.lt
  have hcr := HR.out.lt
  go_upto_region 4 with (first
    | (refine Agg.make ti25 _ _ rfl rfl 124 124 rfl rfl rfl rfl (Nat.le_refl _) (by decide) (by decide) ?_; simp only [Act.put, List.setIfInBounds_toArray, List.set_cons_succ, List.set_cons_zero]))
  refine Agg.wp_at fun w4 hw4 => ?_
  have hb : Below w3.heap.size w3 w4 := by rw [hw4.out]; repeat (first | exact Below.refl _ _ | refine Agg.bel_drew ?_ | refine Agg.bel_alloc ?_ _)
  replace HB := Lib.hid (HB.out.trans (hb.mono HB.out.size))
  replace HD := Lib.hid (HD.out.keep hb)
  replace HA := Lib.hid (HA.out.keep hb)
  replace HR := Lib.hid (HR.out.keep hb)
  clear hb
  have HC : Hid (Blk w4 w3.heap.size 5 (List.replicate 124 (.int .u8 0))) := by show Blk _ _ _ _; rw [hw4.out]; exact made_blk w3 124 _ rfl
  clear hw4
  generalize w3.heap.size = c at *
  have hk8 : IntKind.u8.wrap kind = ((UInt8.ofNat kind.toNat).toNat : Int) := by
    have := HP.out
    unfold pageP at this
    rw [wrap_u8, UInt8.toNat_ofNat']; omega
  have hl8 : IntKind.u8.wrap (d.length : Int) = ((UInt8.ofNat d.length).toNat : Int) := by
    have := HP.out
    unfold pageP at this
    rw [wrap_u8, UInt8.toNat_ofNat']; omega
  refine Agg.heldBegin (S := fun z => Blk z w.heap.size 92 [.int .i64 kind, .slice x d.length cap]) 13 (by kernel_rfl) rfl ?_
  have hb0 : Below w4.heap.size w4 w4.drew := bel_drew (Below.refl _ _)
  generalize w4.drew = z0 at hb0 ⊢
  have hb := hb0
  replace HB := Lib.hid (HB.out.trans (hb.mono HB.out.size))
  replace HD := Lib.hid (HD.out.keep hb)
  replace HA := Lib.hid (HA.out.keep hb)
  replace HR := Lib.hid (HR.out.keep hb)
  replace HC := Lib.hid (HC.out.keep hb)
  clear hb
  refine Agg.heldTake (i := 0) (by decide +kernel) rfl rfl rfl (v := .slice (some ⟨c, 0, none⟩) 124 124) (fun z _ => Agg.run_move rfl rfl) HA.out ?_
  refine Agg.heldTake (i := 1) (by decide +kernel) rfl rfl rfl (v := .slice (some ⟨c, 0, none⟩) 124 124) (fun z _ => Agg.run_move rfl rfl) HA.out ?_
  refine Agg.heldTake (i := 2) (by decide +kernel) rfl rfl rfl (fun z _ => Agg.run_fa fo_Page_0 rfl (b := w.heap.size) (f := 0) rfl) HA.out ?_
  refine Agg.heldTake (i := 3) (by decide +kernel) rfl rfl rfl (v := .int .i64 kind) (fun z hz => by exact Agg.run_ld (t := 3) (by decide +kernel) rfl rfl (hz.cell 0)) HA.out ?_
  refine Agg.heldTake (i := 4) (by decide +kernel) rfl rfl rfl (v := .int .u8 ((UInt8.ofNat kind.toNat).toNat : Int)) (fun z _ => by exact Agg.run_int (k := .i64) (m := kind) _ hk8 Try.underlying3 Try.underlying5 rfl rfl) HA.out ?_
  refine Agg.heldTake (i := 5) (by decide +kernel) rfl rfl rfl (fun z _ => Agg.run_fa fo_Page_1 rfl (b := w.heap.size) (f := 0) rfl) HA.out ?_
  refine Agg.heldTake (i := 6) (by decide +kernel) rfl rfl rfl (v := .slice x d.length cap) (fun z hz => by exact Agg.run_ld (t := 57) (by decide +kernel) rfl rfl (hz.cell 1)) HA.out ?_
  refine Agg.heldTake (i := 7) (by decide +kernel) rfl rfl rfl (v := .int .i64 (d.length : Int)) (fun z _ => by exact Agg.run_len Try.underlying57 rfl rfl) HA.out ?_
  refine Agg.heldTake (i := 8) (by decide +kernel) rfl rfl rfl (v := .int .u8 ((UInt8.ofNat d.length).toNat : Int)) (fun z _ => by exact Agg.run_int (k := .i64) (m := (d.length : Int)) _ hl8 Try.underlying3 Try.underlying5 rfl rfl) HA.out ?_
  refine Agg.heldTake (i := 9) (by decide +kernel) rfl rfl rfl (v := .pointer (some ⟨c, 0, none⟩)) (fun z _ => by exact Agg.run_ia ti25 (i := 0) (by decide) (by decide) rfl rfl rfl) HA.out ?_
  clear hk8 hl8
  refine Agg.heldSt (.int .u8 ((UInt8.ofNat kind.toNat).toNat : Int)) [.int .u8 ((UInt8.ofNat kind.toNat).toNat : Int)] HC.out rfl (by kernel_rfl) (by simp) (by simp [Value.oneCell']) (i := 10) (by decide +kernel) rfl rfl rfl rfl rfl rfl (fun z1 hc1 hg1 => ⟨HA.out.grown hg1 (by omega), ?_⟩)
  have HA1 := Lib.hid (HA.out.grown hg1 (by omega))
  refine Agg.heldTake (i := 11) (by decide +kernel) rfl rfl rfl (v := .pointer (some ⟨c, 1, none⟩)) (fun z _ => by exact Agg.run_ia ti25 (i := 1) (by decide) (by decide) rfl rfl rfl) HA1.out ?_
  refine Agg.heldSt (.int .u8 ((UInt8.ofNat d.length).toNat : Int)) [.int .u8 ((UInt8.ofNat d.length).toNat : Int)] hc1 rfl (by kernel_rfl) (by rw [spliced_length _ _ _ (by simp)]; simp) (by simp [Value.oneCell']) (i := 12) (by decide +kernel) rfl rfl rfl rfl rfl rfl (fun z2 hc2 hg2 => ⟨HA1.out.grown hg2 (by omega), ?_⟩)
  refine Agg.heldDone (by decide +kernel) ?_
  replace HB := Lib.hid (HB.out.trans (grown_below hg1 HB.out.size (fun j hj => (by cases hj; exact hcs))))
  replace HB := Lib.hid (HB.out.trans (grown_below hg2 HB.out.size (fun j hj => (by cases hj; exact hcs))))
  replace HA := Lib.hid (HA1.out.grown hg2 (by omega))
  replace HR := Lib.hid ((HR.out.grown hg1 (by omega)).grown hg2 (by omega))
  replace HD := Lib.hid (HDw.out.keep HB.out)
  have HC2 := Lib.hid hc2
  clear HC HA1 hc1 hg1 hc2 hg2 hb0
  simp only [List.set_cons_succ, List.set_cons_zero]
  go_upto_region 5 with (fail)
  have hcx := HA.out.cell 1
  simp only [List.getElem?_cons_zero, List.getElem?_cons_succ] at hcx
  refine Agg.chainR 4 (by kernel_rfl) (by kernel_rfl) ?_
  simp only [List.take_succ_cons, List.take_zero, List.drop_succ_cons, List.drop_zero]
  refine Agg.chMove rfl rfl rfl rfl ?_
  refine Agg.chSl _ (fun w => run_slice_from ti25 c 0 124 124 4 (by decide) (by decide) w) rfl rfl rfl rfl rfl ?_
  refine Agg.chFA (by first | exact fo_Page_1 | exact fo_Sec_1 | exact fo_Laid_1) rfl rfl rfl rfl ?_
  refine Agg.chLoad rfl rfl rfl rfl (by decide +kernel) hcx ?_
  refine Agg.chEnd ?_
  intro vs w61 hb hf
  simp only [List.reverse, List.reverseAux, Agg.Facts] at hf
  obtain _ := hf
  simp only [List.reverse, List.reverseAux, Agg.fill, List.set_cons_succ, List.set_cons_zero]
  clear hcx
  have hb1 := HB.out.size
  replace HB := Lib.hid (HB.out.trans (hb.mono hb1))
  replace HD := Lib.hid (HDw.out.keep HB.out)
  replace HA := Lib.hid (HA.out.keep hb)
  replace HR := Lib.hid (HR.out.keep hb)
  replace HC2 := Lib.hid (HC2.out.keep hb)
  have hd120 := HP.out.2.2
  refine Agg.tCopyB ti25 _ _ rfl rfl rfl HC2.out _ 120 120 rfl rfl HD.out (bv_one _) d.length (by show d.length = min d.length 120; omega) (by rw [spliced_length _ _ _ (by rw [spliced_length _ _ _ (by simp)]; simp), spliced_length _ _ _ (by simp)]; simp; omega) (fun w2 hb2 hg2 => ?_)
  rw [List.take_of_length_le (by rw [bv_length]; exact Nat.le_refl _)] at hb2
  have HC3 := Lib.hid ((congrArg (fun z => Blk w2 c 5 z) (pre_cells kind d hd120)).mp hb2)
  replace HB := Lib.hid (HB.out.trans (grown_below hg2 HB.out.size (fun j hj => (by cases hj; exact hcs))))
  replace HA := Lib.hid (HA.out.grown hg2 (by omega))
  replace HR := Lib.hid (HR.out.grown hg2 (by omega))
  have hcc := HC3.out.lt
  clear HC2 hb2 hg2 hb hb1 HD
  refine Agg.wpNil ?_
  have hsz2 := HB.out.size
  have hrr := HR.out.lt
  go_wp2_with (refine Agg.allocRow 121 (blkC zeroB ++ [Value.int .i64 0]).toArray rfl rfl (by kernel_rfl) ?_; simp only [Act.put, List.setIfInBounds_toArray, List.set_cons_succ, List.set_cons_zero])
  refine Agg.wp_at fun w71 hw71 => ?_
  have hb : Below w2.heap.size w2 w71 := by rw [hw71.out]; repeat (first | exact Below.refl _ _ | refine Agg.bel_drew ?_ | refine Agg.bel_alloc ?_ _)
  replace HB := Lib.hid (HB.out.trans (hb.mono HB.out.size))
  replace HA := Lib.hid (HA.out.keep hb)
  replace HR := Lib.hid (HR.out.keep hb)
  replace HC3 := Lib.hid (HC3.out.keep hb)
  clear hb
  have HE : Hid (Blk w71 w2.heap.size 121 (blkC zeroB ++ [Value.int .i64 0])) := by show Blk _ _ _ _; rw [hw71.out]; exact Blk.newAt w2 121 (blkC zeroB ++ [Value.int .i64 0]).toArray _ rfl
  clear hw71
  generalize w2.heap.size = e at *
  go_loopw [35, 8] (fun i _ wr => ∃ k : Nat, k ≤ 4 ∧ i = .int .i64 k ∧ Blk wr e 121 (blkC (stTo n k) ++ [Value.int .i64 0]) ∧ w71.grownBy wr (some e)) (fun i _ _ => 4 - (intOf i).toNat)
  case atStart => exact ⟨0, by omega, rfl, HE.out, World.grownBy.refl _ _⟩
  case round =>
    obtain ⟨k, hk, rfl, hbk, hgk⟩ := hrel
    have HBK := Lib.hid hbk
    have HGK := Lib.hid hgk
    clear hbk hgk
    by_cases hlt : k < 4
    · have hset := blkC_stamped _ (stTo_len n k) k (by rw [stTo_length]; exact hlt) n [Value.int .i64 0]
      rw [stTo_set n k hlt] at hset
      have hfit : k * 33 + 1 ≤ (blkC (stTo n k) ++ [Value.int .i64 0]).length := by rw [List.length_append, blkC_length _ (stTo_len n k), stTo_length]; simp; omega
      have hbk := HBK.out
      go_wp2_with (refine Agg.gStoreCell (k * 33) (.int .u64 (n : Int)) hbk rfl rfl rfl rfl rfl (by kernel_rfl) rfl hfit rfl (fun w3 hb3 hg3 => ?_); clear hbk hfit)
      rw [hset] at hb3
      go_roundw
      case rel => exact ⟨k + 1, by omega, by go_num, hb3, grown_trans HGK.out hg3⟩
      case measure => simp [intOf]; omega
    · obtain rfl : k = 4 := by omega
      have HE2 : Hid (Blk wr e 121 (putC n (Crc.lay (pre kind d)) 0)) := Lib.hid HBK.out
      replace HB := Lib.hid (HB.out.trans (grown_below HGK.out HB.out.size (fun j hj => (by cases hj; exact hsz2))))
      replace HR := Lib.hid (HR.out.grown HGK.out (by omega))
      have HC4 := Lib.hid (HC3.out.grown HGK.out (by omega))
      have hl124 := pre_length kind d HP.out.2.2
      have hby : Bytes wr (.slice (some ⟨c, 0, none⟩) 124 124) (pre kind d) := by
        show SlR _ _ _ _ _
        rw [hl124]
        exact SlR.ofBlk HC4.out 0 124 124 (bv (pre kind d)) (by rw [List.drop_zero]; exact List.take_of_length_le (by rw [bv_length, hl124]; exact Nat.le_refl _)) (by rw [bv_length, hl124]) (Nat.le_refl _) (by decide)
      clear HE HC3 HC4 HBK HGK
      have hee := HE2.out.lt
      go_wp2_with fail
      refine (lay_any (pre kind d) _ wr hby (by rw [hl124]; decide)).mono ?_
      rintro e w81 ⟨v2, rfl, ho2, hb⟩
      replace HB := Lib.hid (HB.out.trans (hb.mono HB.out.size))
      replace HR := Lib.hid (HR.out.keep hb)
      replace HE2 := Lib.hid (HE2.out.keep hb)
      clear hb
      obtain ⟨vx, vc, rfl, hv1, hv2⟩ := (ownSl ho2).shape
      have hl128 : (Crc.lay (pre kind d)).length = 128 := by rw [lay_len, hl124]
      rw [hl124] at ho2
      have HO := Lib.hid ho2
      have hvb := ho2.lt
      clear ho2 hby
      have heP := HE2.out.lt
      go_wp2_with fail
      refine Agg.calls_at fun w82 hw82 => ?_
      have hb : Below w81.heap.size w81 w82 := by rw [hw82.out]; repeat (first | exact Below.refl _ _ | refine Agg.bel_drew ?_ | refine Agg.bel_alloc ?_ _)
      replace HB := Lib.hid (HB.out.trans (hb.mono HB.out.size))
      replace HR := Lib.hid (HR.out.keep hb)
      replace HE2 := Lib.hid (HE2.out.keep hb)
      replace HO := Lib.hid (HO.out.keep hb)
      clear hb
      have HQ : Hid (w82.cell? ⟨w81.heap.size, 0, none⟩ = some (.slice vx (124 + 4) vc)) := by
        show _ = _
        rw [hw82.out]
        have := (Blk.new w81 57 #[.slice vx (124 + 4) vc]).cell 0
        simp
      clear hw82
      refine (pgPut_any n (Crc.lay (pre kind d)) hl128 e w81.heap.size (.slice vx (124 + 4) vc) w82 HE2.out HQ.out (by omega) ?_ ?_).mono ?_
      · show SlR _ _ _ _ _
        rw [hl128]; exact ownSl HO.out
      · intro he
        have := (hvb e he).1
        omega
      rintro e' w90 ⟨⟨v9, rfl⟩, hb9, hg9⟩
      have hsW := HB.out.size
      replace HB := Lib.hid (HB.out.trans (grown_below hg9 HB.out.size (fun j hj => (by cases hj; exact hsz2))))
      replace HR := Lib.hid (HR.out.grown hg9 (by omega))
      have hk := layB_ok kind d n HP.out.2.2
      have hlen : (blkC (layB kind d n)).length = 132 := by rw [blkC_length _ hk.2, hk.1]
      have hload : ∀ (i : Nat) (v : Value), (blkC (layB kind d n))[i]? = some v → w90.cell? ⟨e, 0 + i, none⟩ = some v := by
        intro i v hv
        rw [Nat.zero_add, hb9.cell, putC, secsTo_all]
        rw [List.getElem?_append_left (by have := (List.getElem?_eq_some_iff.1 hv).1; exact this)]
        exact hv
      have hr := HR.out
      have h1 := blkC_one (layB kind d n)
      clear hg9 hb9 HO HQ
      go_wp2_with (first
        | (refine Agg.gLoad 132 (blkC (layB kind d n)) rfl rfl rfl (by decide +kernel) hlen hload ?_; simp only [Act.put, List.setIfInBounds_toArray, List.set_cons_succ, List.set_cons_zero])
        | (refine Agg.gStoreB 132 (blkC (layB kind d n)) hr rfl rfl rfl rfl rfl (by decide +kernel) zero132 hlen h1 (fun w91 hb91 hg91 => ?_)))
      refine bodyPost_ret (results_row2 rfl hb91 rfl (by decide +kernel) hlen) rfl ⟨rfl, ?_⟩
      exact HB.out.trans (grown_below hg91 HB.out.size (fun j hj => (by cases hj; omega)))
theorem layP_any (kind : Int) (d : List UInt8) (n : Nat) (dv : Value) (w : World) (hd : Bytes w dv d) (r : List Sec) (er : Int) (hr : layR kind d n = (r, er)) :
    Calls Try.prog 68 #[.agg #[.int .i64 kind, dv], .int .u64 (n : Int)] w fun e w' => e = .returned (.tuple #[.agg (blkC r).toArray, .int .i64 er]) ∧ Below w.heap.size w w' := by
  unfold layR at hr
  split at hr
  · rename_i h
    cases hr
    exact layOk_any kind d n dv w hd h.1 h.2
  · rename_i h
    cases hr
    exact layBad_any kind d n dv w hd h
end Go.Proofs.Ytjnnnnolikbjcaa
end
section
/-
  PAGES: the page of a block.
-/
namespace Go.Proofs.Ytjnnnnolikbjcaa
open Go.ChangeShapes Go.WideShapes Go.ChangeAt Go.RowKit Agg Pg

theorem layB_bok (kind : Int) (d : List UInt8) (n : Nat) (h : d.length ≤ 120) (hn : stampP n) : BOk (layB kind d n) := by
  have hk := layB_ok kind d n h
  refine ⟨hk.1, fun s hs => ⟨hk.2 s hs, ?_⟩⟩
  simp only [layB, secsOf, List.mem_cons, List.not_mem_nil, or_false] at hs
  unfold stampP at hn
  rcases hs with rfl | rfl | rfl | rfl <;> simp only <;> omega
theorem layR_bok (kind : Int) (d : List UInt8) (n : Nat) : BOk (layR kind d n).1 := by
  unfold layR
  split
  · rename_i h; exact layB_bok kind d n h.1.2.2 h.2
  · exact zero_bok
/-- the page that Read tries: of the first bytes -/
def tryD (all : List UInt8) : List UInt8 := (all.drop 4).take (min (all.getD 1 0).toNat 120)
theorem form_iff (b : List Sec) (hb : BOk b) (hs : stampB b = true) (hh : Crc.sum (bytesB b) = 0#32) :
    formP (bytesB b) ↔ ((bytesB b).getD 1 0).toNat ≤ 120 ∧ (layR ((bytesB b).getD 0 0).toNat (tryD (bytesB b)) (st0 b)).2 = 0 ∧ (layR ((bytesB b).getD 0 0).toNat (tryD (bytesB b)) (st0 b)).1 = b := by
  obtain ⟨h1, h2⟩ := stampB_all hs
  constructor
  · intro hf
    have hn : ((bytesB b).getD 1 0).toNat ≤ 120 := hf.1
    obtain ⟨q1, q2⟩ := lay_again b hb.1 hb.len h2 hh hf
    have e : tryD (bytesB b) = ((bytesB b).drop 4).take ((bytesB b).getD 1 0).toNat := by unfold tryD; rw [Nat.min_eq_left hn]
    rw [e]
    unfold layR
    rw [if_pos ⟨q1, h1⟩]
    exact ⟨hn, rfl, q2⟩
  · rintro ⟨_, q1, q2⟩
    unfold layR at q1 q2
    split at q1
    · rename_i h
      rw [if_pos h] at q2
      exact (form_of_lay b hb.1 hb.len _ _ _ h.1 q2).1
    · cases q1
end Go.Proofs.Ytjnnnnolikbjcaa
end
