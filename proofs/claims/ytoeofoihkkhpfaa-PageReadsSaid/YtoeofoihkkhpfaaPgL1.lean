/-
  THE WALK OF LAYER 17's STATEMENT PageReads.
-/
import Derived.Test.YtoeofoihkkhpfaaPgI
namespace Go.Proofs.Ytoeofoihkkhpfaa
open Go.ChangeShapes Go.WideShapes Go.ChangeAt Go.RowKit Agg Pg

set_option maxHeartbeats 4000000 in
set_option maxRecDepth 100000 in
theorem reads_any (b : List Sec) (hb : BOk b) (w : World) :
    Calls Try.prog 4 #[.agg (blkC b).toArray] w fun e w' => e = .returned (.bool true) ∧ Below w.heap.size w w' := by
  obtain ⟨⟨⟨k, d⟩, n, er⟩, hr⟩ : ∃ r, readR b = r := ⟨_, rfl⟩
  obtain ⟨q, hq⟩ : ∃ q, stampB b = q := ⟨_, rfl⟩
  obtain ⟨st, hst⟩ : ∃ st : Nat, (if q then st0 b else 0) = st := ⟨_, rfl⟩
  have HBO := Lib.hid hb
  have HR := Lib.hid hr
  have HS : Hid (∀ w, Calls Try.prog 21 #[.agg (blkC b).toArray] w fun e w' => e = .returned (.tuple #[.int .u64 (st : Int), .bool q]) ∧ Below w.heap.size w w') := by
    refine Lib.hid fun w => ?_
    have := stamp_any b hb w q hq
    rwa [hst] at this
  have HT : Hid (∀ w, Calls Try.prog 22 #[.agg (blkC b).toArray] w fun e w' => e = .returned (.tuple #[.int .u64 (st : Int), .bool q]) ∧ Below w.heap.size w w') := by
    refine Lib.hid fun w => ?_
    have := rStamp_any b hb w q hq
    rwa [hst] at this
  have h132 := bok_cells hb
  clear hb hr hq hst
  have HB := Lib.hid (Below.refl w.heap.size w)
  go_enter Try.func4, Try.ntmps4
  go_wp2_with fail
  refine Agg.calls_at fun w1 hw1 => ?_
  have hb : Below w.heap.size w w1 := by rw [hw1.out]; repeat (first | exact Below.refl _ _ | refine Agg.bel_drew ?_ | refine Agg.bel_alloc ?_ _)
  replace HB := Lib.hid (HB.out.trans (hb.mono HB.out.size))
  clear hb
  have H1 : Hid (Blk w1 w.heap.size 36 (blkC b)) := by show Blk _ _ _ _; rw [hw1.out]; exact Blk.new w 36 (blkC b).toArray
  clear hw1
  refine (wakes_any w1).mono ?_
  rintro e w2 ⟨rfl, hb⟩
  replace HB := Lib.hid (HB.out.trans (hb.mono HB.out.size))
  replace H1 := Lib.hid (H1.out.keep hb)
  clear hb
  have h1 := H1.out
  go_wp2_with (refine Agg.gLoadB 132 h1 h132 rfl rfl rfl (by decide +kernel) ?_; simp only [Act.put, List.setIfInBounds_toArray, List.set_cons_succ, List.set_cons_zero])
  clear h1
  refine (read_any b HBO.out w2 k d n er HR.out).mono ?_
  rintro e w3 ⟨u, rfl, hou, hb⟩
  replace HB := Lib.hid (HB.out.trans (hb.mono HB.out.size))
  replace H1 := Lib.hid (H1.out.keep hb)
  clear hb
  have HU : Hid (Bytes w3 u d) := Lib.hid (own_bytes hou rfl)
  obtain ⟨xu, cu, rfl, _, _⟩ := (ownSl hou).shape
  clear hou
  have h1 := H1.out
  go_wp2_with (first
    | (refine Agg.gLoadB 132 h1 h132 rfl rfl rfl (by decide +kernel) ?_; simp only [Act.put, List.setIfInBounds_toArray, List.set_cons_succ, List.set_cons_zero])
    | (refine Agg.gLoadB 132 (h1.al _) h132 rfl rfl rfl (by decide +kernel) ?_; simp only [Act.put, List.setIfInBounds_toArray, List.set_cons_succ, List.set_cons_zero]))
  clear h1
  refine Agg.calls_at fun w4 hw4 => ?_
  have hb : Below w3.heap.size w3 w4 := by rw [hw4.out]; repeat (first | exact Below.refl _ _ | refine Agg.bel_drew ?_ | refine Agg.bel_alloc ?_ _)
  replace HB := Lib.hid (HB.out.trans (hb.mono HB.out.size))
  replace H1 := Lib.hid (H1.out.keep hb)
  replace HU := Lib.hid (HU.out.keep hb)
  clear hb
  have H3 : Hid (Blk w4 w3.heap.size 24 [.int .i64 k, .slice xu d.length cu]) := by show Blk _ _ _ _; rw [hw4.out]; exact Blk.new w3 24 #[.int .i64 k, .slice xu d.length cu]
  clear hw4
  generalize w3.heap.size = g3 at *
  refine (rRead_any b HBO.out w4 k d n er HR.out).mono ?_
  rintro e w5 ⟨v, rfl, hv, hb⟩
  replace HB := Lib.hid (HB.out.trans (hb.mono HB.out.size))
  replace H1 := Lib.hid (H1.out.keep hb)
  replace HU := Lib.hid (HU.out.keep hb)
  replace H3 := Lib.hid (H3.out.keep hb)
  clear hb
  have HV := Lib.hid hv
  obtain ⟨xv, cv, rfl, _, _⟩ := SlR.shape hv
  clear hv
  have h1 := H1.out
  go_wp2_with (first
    | (refine Agg.gLoadB 132 h1 h132 rfl rfl rfl (by decide +kernel) ?_; simp only [Act.put, List.setIfInBounds_toArray, List.set_cons_succ, List.set_cons_zero])
    | (refine Agg.gLoadB 132 (h1.al _) h132 rfl rfl rfl (by decide +kernel) ?_; simp only [Act.put, List.setIfInBounds_toArray, List.set_cons_succ, List.set_cons_zero]))
  clear h1
  refine Agg.calls_at fun w6 hw6 => ?_
  have hb : Below w5.heap.size w5 w6 := by rw [hw6.out]; repeat (first | exact Below.refl _ _ | refine Agg.bel_drew ?_ | refine Agg.bel_alloc ?_ _)
  replace HB := Lib.hid (HB.out.trans (hb.mono HB.out.size))
  replace H1 := Lib.hid (H1.out.keep hb)
  replace HU := Lib.hid (HU.out.keep hb)
  replace H3 := Lib.hid (H3.out.keep hb)
  replace HV := Lib.hid (HV.out.keep hb)
  clear hb
  have H6 : Hid (Blk w6 w5.heap.size 24 [.int .i64 k, .slice xv d.length cv]) := by show Blk _ _ _ _; rw [hw6.out]; exact Blk.new w5 24 #[.int .i64 k, .slice xv d.length cv]
  clear hw6
  generalize w5.heap.size = g6 at *
  refine (HS.out w6).mono ?_
  rintro e w7 ⟨rfl, hb⟩
  replace HB := Lib.hid (HB.out.trans (hb.mono HB.out.size))
  replace H1 := Lib.hid (H1.out.keep hb)
  replace HU := Lib.hid (HU.out.keep hb)
  replace H3 := Lib.hid (H3.out.keep hb)
  replace HV := Lib.hid (HV.out.keep hb)
  replace H6 := Lib.hid (H6.out.keep hb)
  clear hb
  have h1 := H1.out
  go_wp2_with (refine Agg.gLoadB 132 h1 h132 rfl rfl rfl (by decide +kernel) ?_; simp only [Act.put, List.setIfInBounds_toArray, List.set_cons_succ, List.set_cons_zero])
  clear h1
  refine (HT.out w7).mono ?_
  rintro e w8 ⟨rfl, hb⟩
  replace HB := Lib.hid (HB.out.trans (hb.mono HB.out.size))
  replace H1 := Lib.hid (H1.out.keep hb)
  replace HU := Lib.hid (HU.out.keep hb)
  replace H3 := Lib.hid (H3.out.keep hb)
  replace HV := Lib.hid (HV.out.keep hb)
  replace H6 := Lib.hid (H6.out.keep hb)
  clear hb
  have xH3_0 := H3.out.cell 0
  have xH3_1 := H3.out.cell 1
  have lH3 := H3.out.lt
  simp only [List.getElem?_cons_zero, List.getElem?_cons_succ] at xH3_0 xH3_1
  have xH6_0 := H6.out.cell 0
  have xH6_1 := H6.out.cell 1
  have lH6 := H6.out.lt
  simp only [List.getElem?_cons_zero, List.getElem?_cons_succ] at xH6_0 xH6_1
  go_wp2_with fail
  clear xH3_0 xH3_1 lH3 xH6_0 xH6_1 lH6
  refine (rSame_any k k d d _ _ w8 HU.out HV.out true (by simp)).mono ?_
  rintro e w9 ⟨rfl, hb⟩
  replace HB := Lib.hid (HB.out.trans (hb.mono HB.out.size))
  replace H1 := Lib.hid (H1.out.keep hb)
  replace HU := Lib.hid (HU.out.keep hb)
  replace H3 := Lib.hid (H3.out.keep hb)
  replace HV := Lib.hid (HV.out.keep hb)
  replace H6 := Lib.hid (H6.out.keep hb)
  clear hb
  go_wp2_with fail
  go_ret
  exact ⟨rfl, HB.out⟩
theorem PageReads_walk (c0 : Array Value) (f0 : Nat) (w : World) (h0 : Agg.Good Try.prog w f0 36 c0.toList) :
    Calls Try.prog 4 #[.agg c0] w fun e w' => e = .returned (.bool true) ∧ Below w.heap.size w w' := by
  obtain ⟨b, h1, h2⟩ := good_block h0
  obtain rfl : c0 = (blkC b).toArray := Array.toList_inj.1 h1
  exact reads_any b h2 w
end Go.Proofs.Ytoeofoihkkhpfaa
