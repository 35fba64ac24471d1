/-
  ROOTS: the document's Block.
-/
import Derived.Test.YtjnnnnolikbjcaaRtN8
namespace Go.Proofs.Ytjnnnnolikbjcaa
open Go.ChangeShapes Go.WideShapes Go.ChangeAt Go.RowKit Agg Pg Dv
attribute [local go_sem] Oper.semAt_some

set_option maxHeartbeats 4000000 in
set_option maxRecDepth 100000 in
theorem dBlock_any (r : Rt) (v : Value) (w : World) (hv : RtR w v r) (hr : RightR r) :
    Calls Try.prog 34 #[v] w fun e w' => e = .returned (.agg (blkC (blkR r)).toArray) ∧ Below w.heap.size w w' := by
  obtain ⟨sl, rfl, hs⟩ := hv.ex
  have HD := Lib.hid (fun W h => dData_any r (rtV sl r) W h hr)
  have HL := Lib.hid (fun W u h => rLay_any 1 (dataR r) r.stamp u W h ⟨by decide, by decide, data_120 hr⟩)
  have hb : BOk (layB 1 (dataR r) r.stamp) := blkR_bok hr
  have h132 := bok_cells hb
  have HV := Lib.hid hv
  unfold blkR
  obtain ⟨bl, hbl⟩ : ∃ b, layB 1 (dataR r) r.stamp = b := ⟨_, rfl⟩
  rw [hbl] at HL h132 ⊢
  have H132 := Lib.hid h132
  clear hb h132 hbl hs hv
  obtain ⟨D, hD⟩ : ∃ D, dataR r = D := ⟨_, rfl⟩
  rw [hD] at HD HL
  clear hD
  obtain ⟨s, st, L, by'⟩ := r
  unfold rtV at HV HD ⊢
  dsimp only at HV HD HL ⊢
  have HB := Lib.hid (Below.refl w.heap.size w)
  go_enter Try.func34, Try.ntmps34
  go_upto_region 1 with (refine Agg.allocRow 38 (blkC zeroB).toArray rfl rfl (by kernel_rfl) ?_; simp only [Act.put, List.setIfInBounds_toArray, List.set_cons_succ, List.set_cons_zero])
  refine Agg.wp_at fun w1 hw1 => ?_
  have hb : Below w.heap.size w w1 := by rw [hw1.out]; repeat (first | exact Below.refl _ _ | refine Agg.bel_drew ?_ | refine Agg.bel_alloc ?_ _)
  replace HB := Lib.hid (HB.out.trans (hb.mono HB.out.size))
  replace HV := Lib.hid (HV.out.keep hb)
  clear hb
  have H1 : Hid (Blk w1 w.heap.size 26 [.int .i64 s, .int .u64 (st : Int), sl, .int .i64 by']) := by show Blk _ _ _ _; rw [hw1.out]; exact (Blk.new w 26 #[.int .i64 s, .int .u64 (st : Int), sl, .int .i64 by']).al _
  have H2 : Hid (Blk w1 (w.heap.size + 1) 38 (blkC zeroB)) := by show Blk _ _ _ _; rw [hw1.out]; exact Blk.newAt (w.alloc _) 38 (blkC zeroB).toArray _ (by simp)
  clear hw1
  simp only [World.size_alloc]
  refine Agg.chainR 6 (by kernel_rfl) (by kernel_rfl) ?_
  simp only [List.take_succ_cons, List.take_zero, List.drop_succ_cons, List.drop_zero]
  refine Agg.chRowB 4 H1.out rfl (by decide +kernel) rfl rfl rfl rfl ?_
  refine Agg.chCallG Try.func28 rfl (by kernel_rfl) (fun v W => Bytes W v D) (bytes_stable D) rfl rfl rfl rfl (fun W hb => HD.out W (RtR.keep HV.out hb)) ?_
  refine Agg.chBuildK 1 (PgV.stable D) (fun u => .agg #[.int .i64 1, u]) (fun u w w' h => ⟨build_pg h, ⟨u, rfl, h⟩⟩) rfl rfl rfl rfl rfl rfl rfl ?_
  refine Agg.chFA fo_Rt_1 rfl rfl rfl rfl ?_
  refine Agg.chLoadB H1.out (by decide +kernel) rfl rfl (by rfl) rfl rfl ?_
  refine Agg.chCallO Try.func63 rfl rfl (.agg (blkC bl).toArray) 2 rfl rfl rfl rfl rfl rfl rfl (fun u W hb h => by obtain ⟨x, rfl, hx⟩ := h; exact HL.out W x hx) ?_
  refine Agg.chEnd ?_
  intro vs w2 hb hf
  simp only [List.reverse, List.reverseAux, Agg.Facts] at hf
  obtain _ := hf
  simp only [List.reverse, List.reverseAux, Agg.fill, List.set_cons_succ, List.set_cons_zero]
  have h132 := H132.out
  have hsz := HB.out.size
  have hbA := HB.out.trans (hb.mono HB.out.size)
  have h2 := H2.out.keep hb
  refine Agg.tStore 132 (cs := blkC bl) h2 rfl rfl rfl rfl rfl (by decide +kernel) zero132 h132 (blkC_one _) (fun w60 hb60 hg60 => ?_)
  refine Agg.wpNil ?_
  go_wp2_with fail
  refine bodyPost_ret (results_row1 (m := 132) rfl hb60 rfl (by decide +kernel) h132) rfl ⟨rfl, ?_⟩
  exact hbA.trans (grown_below hg60 hbA.size (fun j hj => by cases hj; omega))
end Go.Proofs.Ytjnnnnolikbjcaa
