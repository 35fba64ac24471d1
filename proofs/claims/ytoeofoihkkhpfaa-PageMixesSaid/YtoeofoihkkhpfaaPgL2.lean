/-
  THE WALK OF LAYER 17's STATEMENT PageMixes.
-/
import Derived.Test.YtoeofoihkkhpfaaPgJ
namespace Go.Proofs.Ytoeofoihkkhpfaa
open Go.ChangeShapes Go.WideShapes Go.ChangeAt Go.RowKit Agg Pg

set_option maxHeartbeats 4000000 in
set_option maxRecDepth 100000 in
theorem mixes_any (l : List (List Sec)) (hl : ∀ b ∈ l, BOk b) (v : Value) (a b : List Sec) (ha : BOk a) (hb : BOk b) (mask : Int) (w : World) (hv : Blks w v l) :
    Calls Try.prog 7 #[v, .agg (blkC a).toArray, .agg (blkC b).toArray, .int .i64 mask] w fun e w' => e = .returned (.bool true) ∧ Below w.heap.size w w' := by
  obtain ⟨x, cap, rfl, hcap, hmax⟩ := SlR.shape hv
  unfold maxLen at hmax
  have HAO := Lib.hid ha
  have HBO := Lib.hid hb
  have HV := Lib.hid hv
  have HL := Lib.hid hl
  have h132a := bok_cells ha
  have h132b := bok_cells hb
  clear hv hl ha hb
  have HB := Lib.hid (Below.refl w.heap.size w)
  go_enter Try.func7, Try.ntmps7
  go_wp2_with fail
  refine Agg.calls_at fun w1 hw1 => ?_
  have hb : Below w.heap.size w w1 := by rw [hw1.out]; repeat (first | exact Below.refl _ _ | refine Agg.bel_drew ?_ | refine Agg.bel_alloc ?_ _)
  replace HB := Lib.hid (HB.out.trans (hb.mono HB.out.size))
  replace HV := Lib.hid (HV.out.keep hb)
  clear hb
  have H5 : Hid (Blk w1 w.heap.size 36 (blkC a)) := by show Blk _ _ _ _; rw [hw1.out]; exact (Blk.new w 36 (blkC a).toArray).al _
  have H6 : Hid (Blk w1 (w.heap.size + 1) 36 (blkC b)) := by show Blk _ _ _ _; rw [hw1.out]; exact Blk.newAt (w.alloc _) 36 (blkC b).toArray _ (by simp)
  clear hw1
  refine (wakes_any w1).mono ?_
  rintro e w2 ⟨rfl, hb⟩
  replace HB := Lib.hid (HB.out.trans (hb.mono HB.out.size))
  replace HV := Lib.hid (HV.out.keep hb)
  replace H5 := Lib.hid (H5.out.keep hb)
  replace H6 := Lib.hid (H6.out.keep hb)
  clear hb
  obtain ⟨m, hm⟩ : ∃ m, m = min l.length 60 := ⟨_, rfl⟩
  have hm1 : m ≤ l.length := by omega
  have hm2 : m ≤ 60 := by omega
  have hme : min (l.length : Int) 60 = (m : Int) := by omega
  have hmc : (m : Int) ≤ cap := by omega
  have hsl := Lib.hid (blks_take HV.out (fun b hb => bok_cells (HL.out b hb)) m hm1)
  have hone := flat_one (l.take m)
  have hsz := HB.out.size
  have HLT : Hid (∀ b ∈ l.take m, BOk b) := Lib.hid (fun b hb => HL.out b (List.mem_of_mem_take hb))
  have HTL : Hid ((l.take m).length = m) := Lib.hid (by rw [List.length_take]; omega)
  have hown := Lib.hid (World.ownsRow_lit (e := 36) (size := 132) (base := w2.heap.size) w2 #[] 0 (Nat.le_refl _) (by decide) rfl)
  have hsl2 := Lib.hid (SlR.keep hsl.out ((Below.refl _ w2).alloc (Nat.le_refl _) (.cells #[] 36)))
  clear hm
  generalize l.take m = t at *
  go_upto_region 4 with (first
    | (refine Agg.min2 _ _ _ (m : Int) rfl rfl rfl rfl hme ?_; simp only [Act.put, List.setIfInBounds_toArray, List.set_cons_succ, List.set_cons_zero])
    | (refine Agg.append2 tiBl _ _ rfl rfl w2.heap.size rfl hown.out rfl hsl2.out hone (by unfold maxLen; omega) (by omega) (by simp only [World.size_alloc]; omega) ?_; intro vz wz ho2 hg2 _; simp only [Act.put, List.setIfInBounds_toArray, List.set_cons_succ, List.set_cons_zero]))
  have hby : Blks wz vz t := by
    show SlR _ _ _ _ _
    rw [HTL.out]
    have := ownSl ho2
    rwa [Nat.zero_add, List.nil_append] at this
  have hbz : Below w2.heap.size w2 wz := ((Below.refl _ w2).alloc (Nat.le_refl _) _).trans (grown_below hg2 (by simp only [World.size_alloc]; omega) (own_block hown.out))
  have HBY := Lib.hid hby
  obtain ⟨xz, cz, rfl, _, _⟩ := (ownSl ho2).shape
  clear hown hsl hsl2 ho2 hg2 hone hby
  have hb := hbz
  replace HB := Lib.hid (HB.out.trans (hb.mono HB.out.size))
  replace HV := Lib.hid (HV.out.keep hb)
  replace H5 := Lib.hid (H5.out.keep hb)
  replace H6 := Lib.hid (H6.out.keep hb)
  clear hb
  refine Agg.chainR 17 (by kernel_rfl) (by kernel_rfl) ?_
  simp only [List.take_succ_cons, List.take_zero, List.drop_succ_cons, List.drop_zero]
  refine Agg.chMove rfl rfl rfl rfl ?_
  refine Agg.chCall Try.func23 rfl (by kernel_rfl) rfl rfl rfl rfl (fun W hb => great_any t HLT.out _ W (SlR.keep HBY.out hb)) ?_
  refine Agg.chMove rfl rfl rfl rfl ?_
  refine Agg.chCall Try.func24 rfl (by kernel_rfl) rfl rfl rfl rfl (fun W hb => rGreat_any t HLT.out _ W (SlR.keep HBY.out hb)) ?_
  refine Agg.chEq true (by simp) rfl rfl rfl rfl rfl ?_
  refine Agg.chMove rfl rfl rfl rfl ?_
  refine Agg.chRowB 132 H5 h132a (by decide +kernel) rfl rfl rfl rfl ?_
  refine Agg.chRowB 132 H6 h132b (by decide +kernel) rfl rfl rfl rfl ?_
  refine Agg.chMove rfl rfl rfl rfl ?_
  refine Agg.chCall Try.func25 rfl (by kernel_rfl) rfl rfl rfl rfl (fun W _ => mix_any a b HAO.out.1 HAO.out.len HBO.out.1 HBO.out.len mask W) ?_
  refine Agg.chRowB 132 H5 h132a (by decide +kernel) rfl rfl rfl rfl ?_
  refine Agg.chRowB 132 H6 h132b (by decide +kernel) rfl rfl rfl rfl ?_
  refine Agg.chMove rfl rfl rfl rfl ?_
  refine Agg.chCall Try.func26 rfl (by kernel_rfl) rfl rfl rfl rfl (fun W _ => rMix_any a b HAO.out HBO.out mask W) ?_
  refine Agg.chBin (v := .bool true) rfl rfl rfl rfl rfl (fun w => flatBlk.gd .eql _ _ _ _ w) (fun w => blk_eql _ _ (mixB_bok HAO.out HBO.out mask) (mixB_bok HAO.out HBO.out mask) true (by simp) w) ?_
  refine Agg.chPick rfl rfl rfl rfl rfl ?_
  refine Agg.chAssign rfl rfl rfl rfl ?_
  refine Agg.chEnd ?_
  intro vs w3 hb _
  refine Agg.wpNil ?_
  simp only [List.reverse, List.reverseAux, Agg.fill, List.set_cons_succ, List.set_cons_zero]
  replace HB := Lib.hid (HB.out.trans (hb.mono HB.out.size))
  replace H5 := Lib.hid (H5.out.keep hb)
  replace H6 := Lib.hid (H6.out.keep hb)
  replace HBY := Lib.hid (HBY.out.keep hb)
  clear hb
  go_wp2_with fail
  go_ret
  exact ⟨rfl, HB.out⟩
theorem PageMixes_walk (v : Value) (f0 : Nat) (c1 : Array Value) (f1 : Nat) (c2 : Array Value) (f2 : Nat) (mask : Int) (w : World) (h0 : Agg.Good Try.prog w f0 51 [v]) (h1 : Agg.Good Try.prog w f1 36 c1.toList) (h2 : Agg.Good Try.prog w f2 36 c2.toList) (_ : (Lit.int .i64 mask).wf = true) :
    Calls Try.prog 7 #[v, .agg c1, .agg c2, .int .i64 mask] w fun e w' => e = .returned (.bool true) ∧ Below w.heap.size w w' := by
  obtain ⟨l, q1, q2, _⟩ := good_blks h0
  obtain ⟨a, h3, h4⟩ := good_block h1
  obtain ⟨b, h5, h6⟩ := good_block h2
  obtain rfl : c1 = (blkC a).toArray := Array.toList_inj.1 h3
  obtain rfl : c2 = (blkC b).toArray := Array.toList_inj.1 h5
  exact mixes_any l q2 v a b h4 h6 mask w q1
end Go.Proofs.Ytoeofoihkkhpfaa
