/-
  DEVICES: the document's Copy.
-/
import Derived.Test.YtgfmpkcgkjpgnaaApp
import Derived.Test.YtgfmpkcgkjpgnaaChain3
namespace Go.Proofs.Ytgfmpkcgkjpgnaa
open Go.ChangeShapes Go.WideShapes Go.ChangeAt Go.RowKit Agg Pg Dv

theorem bWne : 64 ≠ 88 := by decide
set_option maxHeartbeats 4000000 in
set_option maxRecDepth 100000 in
theorem copy_D (x y : Option Addr) (cap cm : Nat) (P : List (List Sec)) (l : List (Int × List Sec)) (z : Int) (q : Bool) (w : World) (hP : P.length ≤ 1000000) (hl : l.length ≤ 1000000) (hp : Pgs w (.slice x P.length cap) P) (hv : Wrs w (.slice y l.length cm) l) :
    Calls Try.prog 72 #[.agg #[.slice x P.length cap, .slice y l.length cm, .int .i64 z, .bool q]] w fun e w' => ∃ p c, e = .returned (.agg #[p, c, .int .i64 z, .bool q]) ∧ w'.ownsRow w.heap.size 64 132 p P.length (P.flatMap blkC) ∧ w'.ownsRow w.heap.size 88 133 c l.length (l.flatMap wrC) ∧ Below w.heap.size w w' := by
  have HP := Lib.hid hp
  have HV := Lib.hid hv
  have HPL := Lib.hid hP
  have HLL := Lib.hid hl
  clear hv hp hP hl
  have HB := Lib.hid (Below.refl w.heap.size w)
  go_enter Try.func72, Try.ntmps72
  go_upto_region 1 with (fail)
  refine Agg.wp_at fun w1 hw1 => ?_
  have hb : Below w.heap.size w w1 := by rw [hw1.out]; repeat (first | exact Below.refl _ _ | refine Agg.bel_drew ?_ | refine Agg.bel_alloc ?_ _)
  replace HB := Lib.hid (HB.out.trans (hb.mono HB.out.size))
  replace HP := Lib.hid (HP.out.keep hb)
  replace HV := Lib.hid (HV.out.keep hb)
  clear hb
  have H1 : Hid (Blk w1 w.heap.size 46 [.slice x P.length cap, .slice y l.length cm, .int .i64 z, .bool q]) := by show Blk _ _ _ _; rw [hw1.out]; exact (Blk.new w 46 #[.slice x P.length cap, .slice y l.length cm, .int .i64 z, .bool q]).al _
  have H2 : Hid (Blk w1 (w.heap.size + 1) 46 [.slice none 0 0, .slice none 0 0, .int .i64 0, .bool false]) := by show Blk _ _ _ _; rw [hw1.out]; exact Blk.newAt (w.alloc _) 46 #[.slice none 0 0, .slice none 0 0, .int .i64 0, .bool false] _ (by simp)
  clear hw1
  have HSZ := Lib.hid HB.out.size
  refine Agg.chainR 9 (by kernel_rfl) (by kernel_rfl) ?_
  simp only [List.take_succ_cons, List.take_zero, List.drop_succ_cons, List.drop_zero]
  refine Agg.chBuildSlice (e := 64) (ps := []) #[] rfl rfl rfl rfl (fun w => by kernel_rfl) ?_
  refine Agg.chFA fo_fo_Dev_0 rfl rfl rfl rfl ?_
  refine Agg.chLoadB H1.out (by decide +kernel) rfl rfl (by rfl) rfl rfl ?_
  refine Agg.chAppendNew tiBl 0 P.length (P.flatMap blkC) HP.out (pgs_one P) (by have := HPL.out; unfold maxLen; omega) (by have := HPL.out; omega) rfl rfl rfl rfl rfl rfl rfl ?_
  refine Agg.chBuildSlice (e := 88) (ps := []) #[] rfl rfl rfl rfl (fun w => by kernel_rfl) ?_
  refine Agg.chFA fo_fo_Dev_1 rfl rfl rfl rfl ?_
  refine Agg.chLoadB H1.out (by decide +kernel) rfl rfl (by rfl) rfl rfl ?_
  refine Agg.chAppendNew tiW 4 l.length (l.flatMap wrC) HV.out (wrs_one l) (by have := HLL.out; unfold maxLen; omega) (by have := HLL.out; omega) rfl rfl rfl rfl rfl rfl rfl ?_
  refine Agg.chFA fo_fo_Dev_0 rfl rfl rfl rfl ?_
  refine Agg.chEnd ?_
  intro vs w2 hb hf
  simp only [List.reverse, List.reverseAux, Agg.Facts] at hf
  obtain ⟨_, ho1, _, ho2, _⟩ := hf
  simp only [List.reverse, List.reverseAux, Agg.fill, List.set_cons_succ, List.set_cons_zero]
  obtain ⟨p, hp⟩ : ∃ p, vs (0 + 1 + 1 + 1) = p := ⟨_, rfl⟩
  obtain ⟨c, hc⟩ : ∃ c, vs (0 + 1 + 1 + 1 + 1 + 1 + 1 + 1) = c := ⟨_, rfl⟩
  rw [hp] at ho1 ⊢
  rw [hc] at ho2 ⊢
  clear hp hc
  have q1 := H1.out.keep hb
  have q2 := H2.out.keep hb
  have hpb := own_block ho1
  have hcb := own_block ho2
  have hpc := elem_apart ho1 ho2 bWne
  obtain ⟨px, pc, rfl, _, _⟩ := (ownSl ho1).shape
  obtain ⟨cx, cc, rfl, _, _⟩ := (ownSl ho2).shape
  have HO1 := Lib.hid (own_base ho1 HSZ.out)
  have HO2 := Lib.hid (own_base ho2 HSZ.out)
  have l2 := H2.out.lt
  have HP1 : Hid (∀ g, g ≤ w.heap.size + 1 → (Value.slice px P.length pc).ownBlock = none ∨ (Value.slice px P.length pc).ownBlock ≠ some g) := Lib.hid (fun g hg => .inr (fun e => by have := hpb g e; omega))
  have HP2 : Hid (∀ g, g ≤ w.heap.size + 1 → (Value.slice cx l.length cc).ownBlock = none ∨ (Value.slice cx l.length cc).ownBlock ≠ some g) := Lib.hid (fun g hg => .inr (fun e => by have := hcb g e; omega))
  replace HB := Lib.hid (HB.out.trans (hb.mono HB.out.size))
  have hsz := HB.out.size
  clear ho1 ho2 hpb hcb hpc hb H1 H2 HP HV HSZ l2
  go_wp2_with (first
    | (refine Agg.gStoreCell 0 (.slice px P.length pc) q1 rfl rfl rfl rfl rfl (by kernel_rfl) rfl (by simp) rfl (fun w12 hb12 hg12 => ?_); clear q1)
    | (refine Agg.gStoreCell 1 (.slice cx l.length cc) hb12 rfl rfl rfl rfl rfl (by kernel_rfl) rfl (by simp [spliced]) rfl (fun w13 hb13 hg13 => ?_); clear hb12))
  have q3 := (q2.far' hg12 (by omega)).far' hg13 (by omega)
  have q4 := (HO1.out.kept hg12 (HP1.out _ (by omega))).kept hg13 (HP1.out _ (by omega))
  have q5 := (HO2.out.kept hg12 (HP2.out _ (by omega))).kept hg13 (HP2.out _ (by omega))
  have hb1 := HB.out.trans (grown_below hg12 hsz (fun j hj => (by cases hj; omega)))
  have hb2 := hb1.trans (grown_below hg13 hb1.size (fun j hj => (by cases hj; omega)))
  have e13 : spliced (spliced [.slice x P.length cap, .slice y l.length cm, .int .i64 z, .bool q] 0 [.slice px P.length pc]) 1 [.slice cx l.length cc] = [.slice px P.length pc, .slice cx l.length cc, .int .i64 z, .bool q] := by simp [spliced]
  rw [e13] at hb13
  clear e13 hg12 hg13 hb1 HO1 HO2 q2 HB
  have HO1 := Lib.hid q4
  have HO2 := Lib.hid q5
  clear q4 q5
  have hsz2 := hb2.size
  refine Agg.noP ?_
  go_wp2_with (first
    | (refine Agg.gLoadB 4 hb13 rfl rfl rfl rfl (by decide +kernel) ?_; simp only [Act.put, List.setIfInBounds_toArray, List.set_cons_succ, List.set_cons_zero])
    | (refine Agg.gStoreB 4 [.slice px P.length pc, .slice cx l.length cc, .int .i64 z, .bool q] q3 rfl rfl rfl rfl rfl (by decide +kernel) rfl rfl (by simp [Value.oneCell']) (fun w14 hb14 hg14 => ?_)))
  have q5 := HO1.out.kept hg14 (HP1.out _ (by omega))
  have q6 := HO2.out.kept hg14 (HP2.out _ (by omega))
  refine bodyPost_ret (results_row1 (m := 4) rfl hb14 rfl (by decide +kernel) rfl) rfl ⟨_, _, rfl, q5, q6, ?_⟩
  exact hb2.trans (grown_below hg14 hsz2 (fun j hj => (by cases hj; omega)))
end Go.Proofs.Ytgfmpkcgkjpgnaa
