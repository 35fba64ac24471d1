/-
  DEVICES: a device in memory of its own.
-/
import Derived.Test.YtgfmpkcgkjpgnaaDv4
import Derived.Test.YtgfmpkcgkjpgnaaGood
import Derived.Test.YtgfmpkcgkjpgnaaCopy
section
namespace Go.Proofs.Ytgfmpkcgkjpgnaa
open Go.ChangeShapes Go.WideShapes Go.ChangeAt Go.RowKit Agg Pg Dv

/-- an own row's base may be lowered -/
theorem own_base {w : World} {b b' : Nat} {e : TypeId} {sz : Nat} {v : Value} {n : Nat} {xs : List Value} (h : w.ownsRow b e sz v n xs) (hb : b' ≤ b) : w.ownsRow b' e sz v n xs := by
  rcases h.2 with ⟨h1, h2⟩ | ⟨g, cap, cur, h1, h2, h3⟩
  · exact ⟨h.1, .inl ⟨h1, h2⟩⟩
  · exact ⟨h.1, .inr ⟨g, cap, cur, h1, Nat.le_trans hb h2, h3⟩⟩
theorem spliced_all (xs cs : List Value) (k : Nat) (h : xs.length = k) (h2 : cs.length = k) : spliced xs (0 * 132) (cs.take k) = cs := by
  rw [List.take_of_length_le (by omega)]
  simp [spliced]; omega
set_option maxHeartbeats 4000000 in
set_option maxRecDepth 100000 in
theorem own_D (x y : Option Addr) (cap cm : Nat) (P : List (List Sec)) (l : List (Int × List Sec)) (z : Int) (q : Bool) (w : World) (hP : P.length ≤ 1000000) (hl : l.length ≤ 1000000) (hpb : ∀ b ∈ P, BOk b) (hp : Pgs w (.slice x P.length cap) P) (hv : Wrs w (.slice y l.length cm) l) :
    Calls Try.prog 63 #[.agg #[.slice x P.length cap, .slice y l.length cm, .int .i64 z, .bool q]] w fun e w' => ∃ p c, e = .returned (.agg #[p, c, .int .i64 z, .bool q]) ∧ w'.ownsRow w.heap.size 64 132 p P.length (P.flatMap blkC) ∧ w'.ownsRow w.heap.size 88 133 c l.length (l.flatMap wrC) ∧ Below w.heap.size w w' := by
  have HP := Lib.hid hp
  have HV := Lib.hid hv
  have HVW := HV
  have HPL := Lib.hid hP
  have HLL := Lib.hid hl
  have HCL : Hid ((P.flatMap blkC).length = P.length * 132) := Lib.hid (flat_len blkC 132 P (fun b hb => bok_cells (hpb b hb)))
  obtain ⟨_, _, hve, _, hmx⟩ := SlR.shape hv
  simp only [Value.slice.injEq, true_and] at hve
  obtain ⟨rfl, rfl⟩ := hve
  obtain ⟨_, _, hve, _, hmy⟩ := SlR.shape hp
  simp only [Value.slice.injEq, true_and] at hve
  obtain ⟨rfl, rfl⟩ := hve
  unfold maxLen at hmx hmy
  have hpn : (P.length : Int) ≤ 1000000 := by omega
  clear hv hp hP hl hpb
  have HB := Lib.hid (Below.refl w.heap.size w)
  go_enter Try.func63, Try.ntmps63
  go_upto_region 1 with (fail)
  refine Agg.wp_at fun w1 hw1 => ?_
  have hb : Below w.heap.size w w1 := by rw [hw1.out]; repeat (first | exact Below.refl _ _ | refine Agg.bel_drew ?_ | refine Agg.bel_alloc ?_ _)
  replace HB := Lib.hid (HB.out.trans (hb.mono HB.out.size))
  replace HP := Lib.hid (HP.out.keep hb)
  replace HV := Lib.hid (HV.out.keep hb)
  clear hb
  have H1 : Hid (Blk w1 w.heap.size 46 [.slice x P.length cap, .slice y l.length cm, .int .i64 z, .bool q]) := by show Blk _ _ _ _; rw [hw1.out]; exact (Blk.new w 46 #[.slice x P.length cap, .slice y l.length cm, .int .i64 z, .bool q]).al _
  have H2 : Hid (Blk w1 (w.heap.size + 1) 46 [.slice none 0 0, .slice none 0 0, .int .i64 0, .bool false]) := by show Blk _ _ _ _; rw [hw1.out]; exact Blk.newAt (w.alloc _) 46 #[.slice none 0 0, .slice none 0 0, .int .i64 0, .bool false] _ (by simp)
  have HSW : Hid (w1.heap.size = w.heap.size + 2) := by show _ = _; rw [hw1.out]; simp
  clear hw1
  have HSZ : Hid (w1.heap.size = w.heap.size + 2) := HSW
  have xH1_0 := H1.out.cell 0
  have xH1_1 := H1.out.cell 1
  have xH1_2 := H1.out.cell 2
  have xH1_3 := H1.out.cell 3
  have lH1 := H1.out.lt
  simp only [List.getElem?_cons_zero, List.getElem?_cons_succ] at xH1_0 xH1_1 xH1_2 xH1_3
  go_upto_region 2 with (refine Agg.make tiBl _ _ rfl rfl P.length P.length rfl rfl rfl rfl (Nat.le_refl _) (by omega) (by unfold maxLen; omega) ?_; simp only [Act.put, List.setIfInBounds_toArray, List.set_cons_succ, List.set_cons_zero])
  refine Agg.wp_at fun w2 hw2 => ?_
  have hb : Below w1.heap.size w1 w2 := by rw [hw2.out]; repeat (first | exact Below.refl _ _ | refine Agg.bel_drew ?_ | refine Agg.bel_alloc ?_ _)
  replace HB := Lib.hid (HB.out.trans (hb.mono HB.out.size))
  replace HP := Lib.hid (HP.out.keep hb)
  replace HV := Lib.hid (HV.out.keep hb)
  replace H1 := Lib.hid (H1.out.keep hb)
  replace H2 := Lib.hid (H2.out.keep hb)
  clear hb
  have hlit := World.ownsRow_lit (e := 64) (size := 132) (base := w.heap.size) w1 (madeCells (Value.cells (.agg (blkC zeroB).toArray)) (P.length * 132)) P.length (by have := HSZ.out; omega) (by unfold maxLen; omega) (size_madeCells _ _)
  rw [← hw2.out] at hlit
  have HO := Lib.hid hlit
  clear hlit
  have hG3 : w1.heap.size = w.heap.size + 2 := HSZ.out
  clear hw2
  rw [hG3] at HO ⊢
  clear hG3
  have ho := HO.out
  have hpp := HP.out
  obtain ⟨xs, hxs⟩ : ∃ xs, xs = (madeCells (Value.cells (.agg (blkC zeroB).toArray)) (P.length * 132)).toList := ⟨_, rfl⟩
  have hxl : xs.length = P.length * 132 := by rw [hxs]; simp [size_madeCells]
  rw [← hxs] at HO ho
  have HXL := Lib.hid hxl
  clear hxs hxl
  clear xH1_0 xH1_1 xH1_2 xH1_3 lH1
  have xH1_0 := H1.out.cell 0
  have xH1_1 := H1.out.cell 1
  have xH1_2 := H1.out.cell 2
  have xH1_3 := H1.out.cell 3
  have lH1 := H1.out.lt
  simp only [List.getElem?_cons_zero, List.getElem?_cons_succ] at xH1_0 xH1_1 xH1_2 xH1_3
  go_upto_region 3 with (refine Agg.copy tiBl _ _ rfl rfl ho 0 P.length P.length rfl rfl rfl hpp (pgs_one P) P.length (by simp) (by omega) (fun w6 ho6 hg6 => ?_))
  clear ho hpp
  have ho7 := ho6.out
  rw [spliced_all _ _ _ HXL.out HCL.out] at ho7
  have hb6 := HB.out.trans (grown_below hg6 HB.out.size (fun j hj => (by cases hj; omega)))
  have q1 := H1.out.far' hg6 (by omega)
  have q2 := H2.out.far' hg6 (by omega)
  have q3 := HVW.out.keep hb6
  replace HB := Lib.hid hb6
  replace HO := Lib.hid ho7
  replace H1 := Lib.hid q1
  replace H2 := Lib.hid q2
  replace HV := Lib.hid q3
  clear ho6 ho7 hg6 hb6 q1 q2 q3 HXL HP HSZ
  clear xH1_0 xH1_1 xH1_2 xH1_3 lH1
  have xH1_0 := H1.out.cell 0
  have xH1_1 := H1.out.cell 1
  have xH1_2 := H1.out.cell 2
  have xH1_3 := H1.out.cell 3
  have lH1 := H1.out.lt
  simp only [List.getElem?_cons_zero, List.getElem?_cons_succ] at xH1_0 xH1_1 xH1_2 xH1_3
  go_wp2_with fail
  have hsz6 := HB.out.size
  have h2l := H2.out.lt
  clear xH1_0 xH1_1 xH1_2 xH1_3 lH1
  refine (cloneW_any l _ w6 HV.out HLL.out).mono ?_
  rintro e w11 ⟨c, rfl, hc, hb⟩
  replace HB := Lib.hid (HB.out.trans (hb.mono HB.out.size))
  replace HV := Lib.hid (HV.out.keep hb)
  replace H1 := Lib.hid (H1.out.keep hb)
  replace H2 := Lib.hid (H2.out.keep hb)
  replace HO := Lib.hid (HO.out.keep hb)
  clear hb
  have hcb := own_block hc
  have HC := Lib.hid (own_base hc hsz6)
  have HCB : Hid (∀ g, g ≤ w.heap.size + 1 → c.ownBlock = none ∨ c.ownBlock ≠ some g) := Lib.hid (fun g hg => .inr (fun e => by have := hcb g e; omega))
  obtain ⟨xc, cc, rfl, _, _⟩ := (ownSl hc).shape
  clear hc hcb hsz6 h2l
  have h1 := H1.out
  have hsz := HB.out.size
  go_upto_region 4 with (first
    | (refine Agg.gStoreCell 0 (.slice (some ⟨w.heap.size + 2, 0, none⟩) P.length P.length) h1 rfl rfl rfl rfl rfl (by kernel_rfl) rfl (by simp) rfl (fun w12 hb12 hg12 => ?_); clear h1)
    | (refine Agg.gStoreCell 1 (.slice xc l.length cc) hb12 rfl rfl rfl rfl rfl (by kernel_rfl) rfl (by simp [spliced]) rfl (fun w13 hb13 hg13 => ?_); clear hb12))
  have q2 := (H2.out.far' hg12 (by omega)).far' hg13 (by omega)
  have q3 := (HO.out.kept hg12 (.inr (by simp [Value.ownBlock]))).kept hg13 (.inr (by simp [Value.ownBlock]))
  have q4 := (HC.out.kept hg12 (HCB.out _ (by omega))).kept hg13 (HCB.out _ (by omega))
  have hb1 := HB.out.trans (grown_below hg12 hsz (fun j hj => (by cases hj; omega)))
  have hb2 := hb1.trans (grown_below hg13 hb1.size (fun j hj => (by cases hj; omega)))
  have e13 : spliced (spliced [.slice x P.length cap, .slice y l.length cm, .int .i64 z, .bool q] 0 [.slice (some ⟨w.heap.size + 2, 0, none⟩) P.length P.length]) 1 [.slice xc l.length cc] = [.slice (some ⟨w.heap.size + 2, 0, none⟩) P.length P.length, .slice xc l.length cc, .int .i64 z, .bool q] := by simp [spliced]
  rw [e13] at hb13
  clear e13 hg12 hg13 hb1 H1 H2 HO HC HV
  replace HB := Lib.hid hb2
  have H2 := Lib.hid q2
  have HO := Lib.hid q3
  have HC := Lib.hid q4
  clear hb2 q3 q4
  have hsz2 := HB.out.size
  go_wp2_with (first
    | (refine Agg.gLoadB 4 hb13 rfl rfl rfl rfl (by decide +kernel) ?_; simp only [Act.put, List.setIfInBounds_toArray, List.set_cons_succ, List.set_cons_zero])
    | (refine Agg.gStoreB 4 [.slice (some ⟨w.heap.size + 2, 0, none⟩) P.length P.length, .slice xc l.length cc, .int .i64 z, .bool q] q2 rfl rfl rfl rfl rfl (by decide +kernel) rfl rfl (by simp [Value.oneCell']) (fun w14 hb14 hg14 => ?_)))
  have q5 := HO.out.kept hg14 (.inr (by simp [Value.ownBlock]))
  have q6 := HC.out.kept hg14 (HCB.out _ (by omega))
  refine bodyPost_ret (results_row1 (m := 4) rfl hb14 rfl (by decide +kernel) rfl) rfl ⟨_, _, rfl, q5, q6, ?_⟩
  exact HB.out.trans (grown_below hg14 hsz2 (fun j hj => (by cases hj; omega)))
end Go.Proofs.Ytgfmpkcgkjpgnaa
end
section
/-
  DEVICES: fuses burn.
-/
namespace Go.Proofs.Ytgfmpkcgkjpgnaa
open Go.ChangeShapes Go.WideShapes Go.ChangeAt Go.RowKit Agg Pg Dv

/-- a fuse that burns: the fuse, whether the power is off -/
def burnF (z : Int) (q : Bool) : Int × Bool := if z = 0 then (-1, true) else if 0 < z then (z - 1, q) else (z, q)
set_option maxHeartbeats 4000000 in
set_option maxRecDepth 100000 in
theorem rburns_any (x y : Option Addr) (n cap m cm : Nat) (z : Int) (q : Bool) (w : World) (hz : z ≤ 10000) (f : Int) (o : Bool) (hf : burnF z q = (f, o)) (on : Bool) (hon : decide (z ≠ 0) = on) :
    Calls Try.prog 71 #[.agg #[.slice x n cap, .slice y m cm, .int .i64 z, .bool q]] w fun e w' => e = .returned (.tuple #[.agg #[.slice x n cap, .slice y m cm, .int .i64 f, .bool o], .bool on]) ∧ Below w.heap.size w w' := by
  have HF := Lib.hid hf
  have HO := Lib.hid hon
  clear hf hon
  have HB := Lib.hid (Below.refl w.heap.size w)
  go_enter Try.func71, Try.ntmps71
  go_upto_region 1 with (fail)
  refine Agg.wp_at fun w1 hw1 => ?_
  have hb : Below w.heap.size w w1 := by rw [hw1.out]; repeat (first | exact Below.refl _ _ | refine Agg.bel_drew ?_ | refine Agg.bel_alloc ?_ _)
  replace HB := Lib.hid (HB.out.trans (hb.mono HB.out.size))
  clear hb
  have H1 : Hid (Blk w1 w.heap.size 46 [.slice x n cap, .slice y m cm, .int .i64 z, .bool q]) := by show Blk _ _ _ _; rw [hw1.out]; exact (Blk.new w 46 #[.slice x n cap, .slice y m cm, .int .i64 z, .bool q]).al _
  have H2 : Hid (Blk w1 (w.heap.size + 1) 46 [.slice none 0 0, .slice none 0 0, .int .i64 0, .bool false]) := by show Blk _ _ _ _; rw [hw1.out]; exact Blk.newAt (w.alloc _) 46 #[.slice none 0 0, .slice none 0 0, .int .i64 0, .bool false] _ (by simp)
  clear hw1
  have h1 := H1.out
  have hsz := HB.out.size
  by_cases h0 : z = 0
  · subst h0
    obtain ⟨rfl, rfl⟩ : f = -1 ∧ o = true := by have := HF.out; simp only [burnF, if_true, Prod.mk.injEq] at this; exact ⟨this.1.symm, this.2.symm⟩
    obtain rfl : on = false := by have := HO.out; simpa using this.symm
    have xH1_0 := H1.out.cell 0
    have xH1_1 := H1.out.cell 1
    have xH1_2 := H1.out.cell 2
    have xH1_3 := H1.out.cell 3
    have lH1 := H1.out.lt
    simp only [List.getElem?_cons_zero, List.getElem?_cons_succ] at xH1_0 xH1_1 xH1_2 xH1_3
    go_upto_region 3 with (first
      | (refine Agg.gStoreCell 3 (.bool true) h1 rfl rfl rfl rfl rfl (by kernel_rfl) rfl (by simp) rfl (fun w12 hb12 hg12 => ?_); clear h1)
      | (refine Agg.gStoreCell 2 (.int .i64 (-1)) hb12 rfl rfl rfl rfl rfl (by kernel_rfl) rfl (by simp [spliced]) rfl (fun w13 hb13 hg13 => ?_); clear hb12))
    have q2 := (H2.out.far' hg12 (by omega)).far' hg13 (by omega)
    have hb1 := HB.out.trans (grown_below hg12 hsz (fun j hj => (by cases hj; omega)))
    have hb2 := hb1.trans (grown_below hg13 hb1.size (fun j hj => (by cases hj; omega)))
    simp only [spliced, List.take_succ_cons, List.take_zero, List.drop_succ_cons, List.drop_zero, List.length_cons, List.length_nil, List.cons_append, List.nil_append] at hb13
    clear xH1_0 xH1_1 xH1_2 xH1_3 lH1
    clear hg12 hg13 hb1
    go_wp2_with (first
      | (refine Agg.gLoadB 4 hb13 rfl rfl rfl rfl (by decide +kernel) ?_; simp only [Act.put, List.setIfInBounds_toArray, List.set_cons_succ, List.set_cons_zero])
      | (refine Agg.gStoreB 4 [.slice x n cap, .slice y m cm, .int .i64 (-1), .bool true] q2 rfl rfl rfl rfl rfl (by decide +kernel) rfl rfl (by simp [Value.oneCell']) (fun w14 hb14 hg14 => ?_)))
    refine bodyPost_ret (results_row2 (m := 4) rfl hb14 rfl (by decide +kernel) rfl) rfl ⟨rfl, ?_⟩
    exact hb2.trans (grown_below hg14 hb2.size (fun j hj => (by cases hj; omega)))
  · obtain rfl : on = true := by rw [← HO.out]; simpa using h0
    have hz0 : (z == 0) = false := by simpa using h0
    have h2 := H2.out
    have HB2 := HB.out
    by_cases h3 : 0 < z
    · obtain ⟨rfl, rfl⟩ : f = z - 1 ∧ o = q := by have := HF.out; simp only [burnF, if_neg h0, if_pos h3, Prod.mk.injEq] at this; exact ⟨this.1.symm, this.2.symm⟩
      clear h0
      have h3' : z > 0 := h3
      have xH1_0 := H1.out.cell 0
      have xH1_1 := H1.out.cell 1
      have xH1_2 := H1.out.cell 2
      have xH1_3 := H1.out.cell 3
      have lH1 := H1.out.lt
      simp only [List.getElem?_cons_zero, List.getElem?_cons_succ] at xH1_0 xH1_1 xH1_2 xH1_3
      go_upto_region 6 with (refine Agg.gStoreCell 2 (.int .i64 (z - 1)) h1 rfl rfl rfl rfl rfl (by kernel_rfl) rfl (by simp) rfl (fun w12 hb12 hg12 => ?_); clear h1)
      clear xH1_0 xH1_1 xH1_2 xH1_3 lH1
      have q2 := H2.out.far' hg12 (by omega)
      have hb1 := HB.out.trans (grown_below hg12 hsz (fun j hj => (by cases hj; omega)))
      simp only [spliced, List.take_succ_cons, List.take_zero, List.drop_succ_cons, List.drop_zero, List.length_cons, List.length_nil, List.cons_append, List.nil_append] at hb12
      clear hg12
      go_wp2_with (first
        | (refine Agg.gLoadB 4 hb12 rfl rfl rfl rfl (by decide +kernel) ?_; simp only [Act.put, List.setIfInBounds_toArray, List.set_cons_succ, List.set_cons_zero])
        | (refine Agg.gStoreB 4 [.slice x n cap, .slice y m cm, .int .i64 (z - 1), .bool o] q2 rfl rfl rfl rfl rfl (by decide +kernel) rfl rfl (by simp [Value.oneCell']) (fun w14 hb14 hg14 => ?_)))
      refine bodyPost_ret (results_row2 (m := 4) rfl hb14 rfl (by decide +kernel) rfl) rfl ⟨rfl, ?_⟩
      exact hb1.trans (grown_below hg14 hb1.size (fun j hj => (by cases hj; omega)))
    · obtain ⟨rfl, rfl⟩ : f = z ∧ o = q := by have := HF.out; simp only [burnF, if_neg h0, if_neg h3, Prod.mk.injEq] at this; exact ⟨this.1.symm, this.2.symm⟩
      clear h0
      have xH1_0 := H1.out.cell 0
      have xH1_1 := H1.out.cell 1
      have xH1_2 := H1.out.cell 2
      have xH1_3 := H1.out.cell 3
      have lH1 := H1.out.lt
      simp only [List.getElem?_cons_zero, List.getElem?_cons_succ] at xH1_0 xH1_1 xH1_2 xH1_3
      go_upto_region 6 with (fail)
      clear xH1_0 xH1_1 xH1_2 xH1_3 lH1
      go_wp2_with (first
        | (refine Agg.gLoadB 4 h1 rfl rfl rfl rfl (by decide +kernel) ?_; simp only [Act.put, List.setIfInBounds_toArray, List.set_cons_succ, List.set_cons_zero])
        | (refine Agg.gStoreB 4 [.slice x n cap, .slice y m cm, .int .i64 f, .bool o] h2 rfl rfl rfl rfl rfl (by decide +kernel) rfl rfl (by simp [Value.oneCell']) (fun w14 hb14 hg14 => ?_)))
      refine bodyPost_ret (results_row2 (m := 4) rfl hb14 rfl (by decide +kernel) rfl) rfl ⟨rfl, ?_⟩
      exact HB2.trans (grown_below hg14 HB2.size (fun j hj => (by cases hj; omega)))
end Go.Proofs.Ytgfmpkcgkjpgnaa
end
section
/-
  DEVICES: a turning device's fuse burns.
-/
namespace Go.Proofs.Ytgfmpkcgkjpgnaa
open Go.ChangeShapes Go.WideShapes Go.ChangeAt Go.RowKit Agg Pg Dv

theorem fo_fo_Tu_0 : Agg.fieldOff Try.prog 114 0 = some 0 := by kernel_rfl
set_option maxHeartbeats 4000000 in
set_option maxRecDepth 100000 in
theorem burns_any (x y : Option Addr) (n cap m cm : Nat) (z : Int) (q : Bool) (T : TypeId) (g : Nat) (w : World) (hz1 : -1 ≤ z) (hz2 : z ≤ 10000) (H : Blk w g T [.slice x n cap, .slice y m cm, .int .i64 z, .bool q]) (f : Int) (o : Bool) (hf : burnF z q = (f, o)) :
    Calls Try.prog 61 #[.pointer (some ⟨g, 0, none⟩)] w fun e w' => e = .returned (.bool (!o)) ∧ Blk w' g T [.slice x n cap, .slice y m cm, .int .i64 f, .bool o] ∧ w.grownBy w' (some g) := by
  have HF := Lib.hid hf
  have H1 := Lib.hid H
  have h1 := H
  clear hf H
  have HB := Lib.hid (Below.refl w.heap.size w)
  go_enter Try.func61, Try.ntmps61
  by_cases h0 : z = 0
  · subst h0
    obtain ⟨rfl, rfl⟩ : f = -1 ∧ o = true := by have := HF.out; simp only [burnF, if_true, Prod.mk.injEq] at this; exact ⟨this.1.symm, this.2.symm⟩
    have xH1_0 := H1.out.cell 0
    have xH1_1 := H1.out.cell 1
    have xH1_2 := H1.out.cell 2
    have xH1_3 := H1.out.cell 3
    have lH1 := H1.out.lt
    simp only [List.getElem?_cons_zero, List.getElem?_cons_succ] at xH1_0 xH1_1 xH1_2 xH1_3
    go_wp2_with (first
      | (refine Agg.gStoreCell 3 (.bool true) h1 rfl rfl rfl rfl rfl (by kernel_rfl) rfl (by simp) rfl (fun w12 hb12 hg12 => ?_); clear h1)
      | (refine Agg.gStoreCell 2 (.int .i64 (-1)) hb12 rfl rfl rfl rfl rfl (by kernel_rfl) rfl (by simp [spliced]) rfl (fun w13 hb13 hg13 => ?_); have e3 : w13.cell? ⟨g, 3, none⟩ = some (.bool true) := hb13.cell 3; clear hb12))
    go_ret
    have hb := hb13
    simp only [spliced, List.take_succ_cons, List.take_zero, List.drop_succ_cons, List.drop_zero, List.length_cons, List.length_nil, List.cons_append, List.nil_append] at hb
    exact ⟨rfl, hb, hg12.trans hg13⟩
  · have hz0 : (z == 0) = false := by simpa using h0
    by_cases h3 : 0 < z
    · obtain ⟨rfl, rfl⟩ : f = z - 1 ∧ o = q := by have := HF.out; simp only [burnF, if_neg h0, if_pos h3, Prod.mk.injEq] at this; exact ⟨this.1.symm, this.2.symm⟩
      have h3' : z > 0 := h3
      clear h0 HF
      have xH1_0 := H1.out.cell 0
      have xH1_1 := H1.out.cell 1
      have xH1_2 := H1.out.cell 2
      have xH1_3 := H1.out.cell 3
      have lH1 := H1.out.lt
      simp only [List.getElem?_cons_zero, List.getElem?_cons_succ] at xH1_0 xH1_1 xH1_2 xH1_3
      go_wp2_with (refine Agg.gStoreCell 2 (.int .i64 (z - 1)) h1 rfl rfl rfl rfl rfl (by kernel_rfl) rfl (by simp) rfl (fun w13 hb13 hg13 => ?_); have e3 : w13.cell? ⟨g, 3, none⟩ = some (.bool o) := hb13.cell 3; clear h1)
      go_ret
      have hb := hb13
      simp only [spliced, List.take_succ_cons, List.take_zero, List.drop_succ_cons, List.drop_zero, List.length_cons, List.length_nil, List.cons_append, List.nil_append] at hb
      exact ⟨rfl, hb, hg13⟩
    · obtain ⟨rfl, rfl⟩ : f = z ∧ o = q := by have := HF.out; simp only [burnF, if_neg h0, if_neg h3, Prod.mk.injEq] at this; exact ⟨this.1.symm, this.2.symm⟩
      clear h0 HF
      have xH1_0 := H1.out.cell 0
      have xH1_1 := H1.out.cell 1
      have xH1_2 := H1.out.cell 2
      have xH1_3 := H1.out.cell 3
      have lH1 := H1.out.lt
      simp only [List.getElem?_cons_zero, List.getElem?_cons_succ] at xH1_0 xH1_1 xH1_2 xH1_3
      go_wp2_with fail
      go_ret
      exact ⟨rfl, h1, World.grownBy.refl _ _⟩
end Go.Proofs.Ytgfmpkcgkjpgnaa
end
section
/-
  DEVICES: pages of noughts.
-/
namespace Go.Proofs.Ytgfmpkcgkjpgnaa
open Go.ChangeShapes Go.WideShapes Go.ChangeAt Go.RowKit Agg Pg Dv

theorem made_pages (n : Nat) : (madeCells (Value.cells (.agg (blkC zeroB).toArray)) (n * 132)).toList = (List.replicate n zeroB).flatMap blkC := by
  apply List.ext_getElem?
  intro i
  by_cases h : i < n * 132
  · have h1 : i / 132 < (List.replicate n zeroB).length := by rw [List.length_replicate]; omega
    have h2 : i % 132 < (blkC zeroB).length := by rw [zero132]; omega
    have h3 := flat_cells blkC 132 (l := List.replicate n zeroB) (fun b hb => by rw [List.eq_of_mem_replicate hb]; exact zero132) (i / 132) h1 (i % 132) ((blkC zeroB)[i % 132]) (by rw [List.getElem_replicate]; exact List.getElem?_eq_getElem h2)
    rw [show i / 132 * 132 + i % 132 = i by omega] at h3
    rw [h3]
    simp [madeCells, Value.cells, h, zero132]
    rw [List.getElem?_eq_getElem h2]; rfl
  · rw [List.getElem?_eq_none (by simp [size_madeCells]; omega), List.getElem?_eq_none]
    rw [flat_len blkC 132 _ (fun b hb => by rw [List.eq_of_mem_replicate hb]; exact zero132), List.length_replicate]; omega
theorem dev0_size : (#[.slice none 0 0, .slice none 0 0, .int .i64 0, .bool false] : Array Value).size = 4 := rfl
set_option maxHeartbeats 4000000 in
set_option maxRecDepth 100000 in
theorem rNew_any (n : Nat) (hn : n ≤ 1000) (w : World) :
    Calls Try.prog 38 #[.int .i64 (n : Int)] w fun e w' => ∃ p, e = .returned (.agg #[p, .slice none 0 0, .int .i64 (-1), .bool false]) ∧ w'.ownsRow w.heap.size 64 132 p n ((List.replicate n zeroB).flatMap blkC) ∧ Below w.heap.size w w' := by
  have HN := Lib.hid hn
  have hn2 : (n : Int) ≤ 1000 := by omega
  clear hn
  have HB := Lib.hid (Below.refl w.heap.size w)
  go_enter Try.func38, Try.ntmps38
  go_upto_region 1 with (fail)
  refine Agg.wp_at fun w1 hw1 => ?_
  have hb : Below w.heap.size w w1 := by rw [hw1.out]; repeat (first | exact Below.refl _ _ | refine Agg.bel_drew ?_ | refine Agg.bel_alloc ?_ _)
  replace HB := Lib.hid (HB.out.trans (hb.mono HB.out.size))
  clear hb
  have H2 : Hid (Blk w1 w.heap.size 46 [.slice none 0 0, .slice none 0 0, .int .i64 0, .bool false]) := by show Blk _ _ _ _; rw [hw1.out]; exact Blk.new w 46 #[.slice none 0 0, .slice none 0 0, .int .i64 0, .bool false]
  have HSW : Hid (w1.heap.size = w.heap.size + 1) := by show _ = _; rw [hw1.out]; simp
  clear hw1
  have hlit := World.ownsRow_lit (e := 64) (size := 132) (base := w.heap.size) w1 (madeCells (Value.cells (.agg (blkC zeroB).toArray)) (n * 132)) n (by have := HSW.out; omega) (by unfold maxLen; omega) (size_madeCells _ _)
  rw [made_pages] at hlit
  have h2 := H2.out.al (.cells (madeCells (Value.cells (.agg (blkC zeroB).toArray)) (n * 132)) 64)
  have hb2 := HB.out.trans (bel_alloc (Below.refl _ w1) (.cells (madeCells (Value.cells (.agg (blkC zeroB).toArray)) (n * 132)) 64) |>.mono HB.out.size)
  go_wp2_with (first
    | (refine Agg.make tiBl _ _ rfl rfl n n rfl rfl rfl rfl (Nat.le_refl _) (by omega) (by unfold maxLen; omega) ?_; simp only [Act.put, List.setIfInBounds_toArray, List.set_cons_succ, List.set_cons_zero])
    | (refine Agg.gStoreB 4 [.slice (some ⟨w1.heap.size, 0, none⟩) n n, .slice none 0 0, .int .i64 (-1), .bool false] h2 rfl rfl rfl rfl rfl (by decide +kernel) rfl rfl (by simp [Value.oneCell']) (fun w14 hb14 hg14 => ?_)))
  refine bodyPost_ret (results_row1 (m := 4) rfl hb14 rfl (by decide +kernel) rfl) rfl ⟨_, rfl, hlit.kept hg14 (.inr (by have := HSW.out; simp [Value.ownBlock]; omega)), ?_⟩
  exact hb2.trans (grown_below hg14 hb2.size (fun j hj => (by cases hj; exact Nat.le_refl _)))
end Go.Proofs.Ytgfmpkcgkjpgnaa
end
section
/-
  DEVICES: New.
-/
namespace Go.Proofs.Ytgfmpkcgkjpgnaa
open Go.ChangeShapes Go.WideShapes Go.ChangeAt Go.RowKit Agg Pg Dv

set_option maxHeartbeats 4000000 in
set_option maxRecDepth 100000 in
theorem new_any (n : Nat) (h24 : 24 ≤ n) (h256 : n ≤ 256) (w : World) :
    Calls Try.prog 32 #[.int .i64 (n : Int)] w fun e w' => ∃ p, e = .returned (.tuple #[.agg #[p, .slice none 0 0, .int .i64 (-1), .bool false], .int .i64 0]) ∧ w'.ownsRow w.heap.size 64 132 p n ((List.replicate n zeroB).flatMap blkC) ∧ Below w.heap.size w w' := by
  have g1 : ¬ (n : Int) < 24 := by omega
  have g2 : ¬ (n : Int) > 256 := by omega
  have hn2 : (n : Int) ≤ 256 := by omega
  have HB := Lib.hid (Below.refl w.heap.size w)
  go_enter Try.func32, Try.ntmps32
  go_upto_region 3 with (fail)
  refine Agg.wp_at fun w1 hw1 => ?_
  have hb : Below w.heap.size w w1 := by rw [hw1.out]; repeat (first | exact Below.refl _ _ | refine Agg.bel_drew ?_ | refine Agg.bel_alloc ?_ _)
  replace HB := Lib.hid (HB.out.trans (hb.mono HB.out.size))
  clear hb
  have H2 : Hid (Blk w1 w.heap.size 46 [.slice none 0 0, .slice none 0 0, .int .i64 0, .bool false]) := by show Blk _ _ _ _; rw [hw1.out]; exact Blk.new w 46 #[.slice none 0 0, .slice none 0 0, .int .i64 0, .bool false]
  have HSW : Hid (w1.heap.size = w.heap.size + 1) := by show _ = _; rw [hw1.out]; simp
  clear hw1
  have hlit := World.ownsRow_lit (e := 64) (size := 132) (base := w.heap.size) w1 (madeCells (Value.cells (.agg (blkC zeroB).toArray)) (n * 132)) n (by have := HSW.out; omega) (by unfold maxLen; omega) (size_madeCells _ _)
  rw [made_pages] at hlit
  have h2 := H2.out.al (.cells (madeCells (Value.cells (.agg (blkC zeroB).toArray)) (n * 132)) 64)
  have hb2 := HB.out.trans (bel_alloc (Below.refl _ w1) (.cells (madeCells (Value.cells (.agg (blkC zeroB).toArray)) (n * 132)) 64) |>.mono HB.out.size)
  go_wp2_with (first
    | (refine Agg.make tiBl _ _ rfl rfl n n rfl rfl rfl rfl (Nat.le_refl _) (by omega) (by unfold maxLen; omega) ?_; simp only [Act.put, List.setIfInBounds_toArray, List.set_cons_succ, List.set_cons_zero])
    | (refine Agg.gStoreB 4 [.slice (some ⟨w1.heap.size, 0, none⟩) n n, .slice none 0 0, .int .i64 (-1), .bool false] h2 rfl rfl rfl rfl rfl (by decide +kernel) rfl rfl (by simp [Value.oneCell']) (fun w14 hb14 hg14 => ?_)))
  refine bodyPost_ret (results_row2 (m := 4) rfl hb14 rfl (by decide +kernel) rfl) rfl ⟨_, rfl, hlit.kept hg14 (.inr (by have := HSW.out; simp [Value.ownBlock]; omega)), ?_⟩
  exact hb2.trans (grown_below hg14 hb2.size (fun j hj => (by cases hj; exact Nat.le_refl _)))
set_option maxHeartbeats 4000000 in
set_option maxRecDepth 100000 in
theorem new_bad (k : Int) (h : k < 24 ∨ 256 < k) (w : World) :
    Calls Try.prog 32 #[.int .i64 k] w fun e w' => e = .returned (.tuple #[.agg #[.slice none 0 0, .slice none 0 0, .int .i64 0, .bool false], .int .i64 2]) ∧ Below w.heap.size w w' := by
  have HH := Lib.hid h
  clear h
  have HB := Lib.hid (Below.refl w.heap.size w)
  go_enter Try.func32, Try.ntmps32
  have hz : ∀ w1 : World, (Instr.build 46 #[]).run Try.prog w1 = .ok (.agg #[.slice none 0 0, .slice none 0 0, .int .i64 0, .bool false]) w1 := fun _ => by kernel_rfl
  have HZ := Lib.hid hz
  clear hz
  have h2 := Blk.new w 46 #[.slice none 0 0, .slice none 0 0, .int .i64 0, .bool false]
  have hb2 := bel_alloc HB.out (.cells #[.slice none 0 0, .slice none 0 0, .int .i64 0, .bool false] 46)
  by_cases h1 : k < 24
  · go_wp2_with (first
      | (refine Agg.gBuild0 (.agg #[.slice none 0 0, .slice none 0 0, .int .i64 0, .bool false]) rfl rfl (fun _ => HZ.out _) ?_; simp only [Act.put, List.setIfInBounds_toArray, List.set_cons_succ, List.set_cons_zero])
      | (refine Agg.gStoreB 4 [.slice none 0 0, .slice none 0 0, .int .i64 0, .bool false] h2 rfl rfl rfl rfl rfl (by decide +kernel) rfl rfl (by simp [Value.oneCell']) (fun w14 hb14 hg14 => ?_)))
    refine bodyPost_ret (results_row2 (m := 4) rfl hb14 rfl (by decide +kernel) rfl) rfl ⟨rfl, ?_⟩
    exact hb2.trans (grown_below hg14 hb2.size (fun j hj => (by cases hj; exact Nat.le_refl _)))
  · have h3 : k > 256 := by have := HH.out; omega
    go_wp2_with (first
      | (refine Agg.gBuild0 (.agg #[.slice none 0 0, .slice none 0 0, .int .i64 0, .bool false]) rfl rfl (fun _ => HZ.out _) ?_; simp only [Act.put, List.setIfInBounds_toArray, List.set_cons_succ, List.set_cons_zero])
      | (refine Agg.gStoreB 4 [.slice none 0 0, .slice none 0 0, .int .i64 0, .bool false] h2 rfl rfl rfl rfl rfl (by decide +kernel) rfl rfl (by simp [Value.oneCell']) (fun w14 hb14 hg14 => ?_)))
    refine bodyPost_ret (results_row2 (m := 4) rfl hb14 rfl (by decide +kernel) rfl) rfl ⟨rfl, ?_⟩
    exact hb2.trans (grown_below hg14 hb2.size (fun j hj => (by cases hj; exact Nat.le_refl _)))
end Go.Proofs.Ytgfmpkcgkjpgnaa
end
section
/-
  DEVICES: == of blocks and of writes; rows of them compared.
-/
namespace Agg
open Go Go.ChangeShapes Go.WideShapes Go.ChangeAt Go.RowKit
section
variable {n kk : Nat} {P : Program} {l rest : List Oper} {W : World} {l0 : List Value} {ds : List Deferred} {acc : List R} {o : Oper} {fin : List R → Prop}
/-- a row of cells, wherever it lies -/
theorem chRowAt (m : Nat) (cs : List Value) (hm : cs.length = m) {b f : Nat} {t : TypeId} {y : Operand} (ht : aggT P t m = true) (ho : o.op = .load t y) (hy : rd (l.take n) l0 kk acc o y = some (.pointer (some ⟨b, f, none⟩))) (hw : wants kk acc o = some true) (hk : gOk l o = true)
    (hc : ∀ i v, cs[i]? = some v → W.cell? ⟨b, f + i, none⟩ = some v)
    (h : ChainR n P l.toArray W ⟨l0.toArray, ds⟩ (kk + 1) ((.pure (.agg cs.toArray)) :: acc) rest fin) : ChainR n P l.toArray W ⟨l0.toArray, ds⟩ kk acc (o :: rest) fin := by
  subst hm
  simp only [aggT, Bool.and_eq_true, beq_iff_eq] at ht
  obtain ⟨e1, e2⟩ := ht
  cases hu : P.underlying t with
  | none => simp [hu] at e1
  | some d =>
    refine chLoadRow d cs ho hy hw hk hu ?_ e2 (fun i v hi => ?_) h
    · cases d <;> simp [hu] at e1 <;> rfl
    · rw [add_none]; exact hc i v hi
end
end Agg
namespace Go.Proofs.Ytgfmpkcgkjpgnaa
open Go.ChangeShapes Go.WideShapes Go.ChangeAt Go.RowKit Agg Pg Dv

def ksSec : List (Option IntKind) := some .u64 :: List.replicate 32 (some .u8)
def ksBlk : List (Option IntKind) := (List.replicate 4 ksSec).flatten
set_option maxRecDepth 100000 in
theorem flatBlk : Flat Try.prog 5 64 ksBlk := ⟨by kernel_rfl, by kernel_rfl, by kernel_rfl, by kernel_rfl, by decide, by kernel_rfl⟩
theorem fits_bv (l : List UInt8) : Agg.Fits (List.replicate l.length (some .u8)) (bv l) := by
  induction l with
  | nil => trivial
  | cons c r ih =>
    refine ⟨⟨_, rfl, ?_⟩, ih⟩
    have := c.toNat_lt
    simp [Lit.wf, IntKind.min, IntKind.max, IntKind.signed, IntKind.bits]; omega
theorem fits_sec (s : Sec) (h : s.2.length = 32) (hs : s.1 < 18446744073709551616) : Agg.Fits ksSec (secC s) := by
  refine ⟨⟨_, rfl, ?_⟩, ?_⟩
  · simp [Lit.wf, IntKind.min, IntKind.max, IntKind.signed, IntKind.bits]; omega
  · have := fits_bv s.2
    rwa [h] at this
theorem fits_blk (b : List Sec) (hb : BOk b) : Agg.Fits ksBlk (blkC b) := by
  have h := Agg.Fits.mkRep (l := ksSec) (cs := b.map secC) (fun c hc => by
    obtain ⟨s, hs, rfl⟩ := List.mem_map.1 hc
    exact fits_sec s (hb.2 s hs).1 (hb.2 s hs).2)
  rw [List.length_map, hb.1] at h
  exact h
theorem blkC_inj {a b : List Sec} (h : blkC a = blkC b) (ha : BOk a) (hb : BOk b) : a = b := by
  apply List.ext_getElem (by rw [ha.1, hb.1])
  intro i h1 h2
  have e1 := blkC_sec a ha.len i h1 []
  have e2 := blkC_sec b hb.len i h2 []
  rw [h, e2] at e1
  have hs : secC b[i] = secC a[i] := e1
  unfold secC at hs
  simp only [List.cons.injEq, Value.int.injEq, true_and] at hs
  obtain ⟨p, q⟩ := hs
  have hbv : ∀ l m : List UInt8, bv l = bv m → l = m := by
    intro l
    induction l with
    | nil => intro m hm; cases m with | nil => rfl | cons _ _ => simp [bv] at hm
    | cons c r ih =>
      intro m hm
      cases m with
      | nil => simp [bv] at hm
      | cons c' r' =>
        simp only [bv, List.map_cons, List.cons.injEq, Value.int.injEq, true_and] at hm
        rw [UInt8.toNat_inj.1 (Int.ofNat.inj hm.1), ih r' hm.2]
  exact Prod.ext (Int.ofNat.inj p).symm (hbv _ _ q).symm
theorem blk_neq (a b : List Sec) (ha : BOk a) (hb : BOk b) (r : Bool) (hr : decide (a = b) = r) (w : World) : (binOp .neq 64 (.agg (blkC a).toArray) (.agg (blkC b).toArray)).run Try.prog w = .ok (.bool (!r)) w :=
  flatBlk.neq (fits_blk a ha) (fits_blk b hb) r (by rw [← hr, decide_eq_true_eq]; exact ⟨fun e => by rw [e], fun e => blkC_inj e ha hb⟩) w
theorem blk_eql (a b : List Sec) (ha : BOk a) (hb : BOk b) (r : Bool) (hr : decide (a = b) = r) (w : World) : (binOp .eql 64 (.agg (blkC a).toArray) (.agg (blkC b).toArray)).run Try.prog w = .ok (.bool r) w :=
  flatBlk.eql (fits_blk a ha) (fits_blk b hb) r (by rw [← hr, decide_eq_true_eq]; exact ⟨fun e => by rw [e], fun e => blkC_inj e ha hb⟩) w
def ksWr : List (Option IntKind) := some .i64 :: ksBlk
set_option maxRecDepth 100000 in
theorem flatWr : Flat Try.prog 6 88 ksWr := ⟨by kernel_rfl, by kernel_rfl, by kernel_rfl, by kernel_rfl, by decide, by kernel_rfl⟩
end Go.Proofs.Ytgfmpkcgkjpgnaa
end
section
/-
  DEVICES: rows of writes compared.
-/
namespace Go.Proofs.Ytgfmpkcgkjpgnaa
open Go.ChangeShapes Go.WideShapes Go.ChangeAt Go.RowKit Agg Pg Dv

/-- a write that can be: its page is a number of 64 bits, its block whole -/
def WOk (x : Int × List Sec) : Prop := (Lit.int .i64 x.1).wf = true ∧ BOk x.2
theorem fits_wr (x : Int × List Sec) (h : WOk x) : Agg.Fits ksWr (wrC x) := ⟨⟨_, rfl, h.1⟩, fits_blk x.2 h.2⟩
theorem wrC_inj {a b : Int × List Sec} (h : wrC a = wrC b) (ha : WOk a) (hb : WOk b) : a = b := by
  unfold wrC at h
  simp only [List.cons.injEq, Value.int.injEq, true_and] at h
  exact Prod.ext h.1 (blkC_inj h.2 ha.2 hb.2)
theorem wr_neq (a b : Int × List Sec) (ha : WOk a) (hb : WOk b) (r : Bool) (hr : decide (a = b) = r) (w : World) : (binOp .neq 88 (.agg (wrC a).toArray) (.agg (wrC b).toArray)).run Try.prog w = .ok (.bool (!r)) w :=
  flatWr.neq (fits_wr a ha) (fits_wr b hb) r (by rw [← hr, decide_eq_true_eq]; exact ⟨fun e => by rw [e], fun e => wrC_inj e ha hb⟩) w
end Go.Proofs.Ytgfmpkcgkjpgnaa
end
section
/-
  DEVICES: Same.
-/
namespace Go.Proofs.Ytgfmpkcgkjpgnaa
open Go.ChangeShapes Go.WideShapes Go.ChangeAt Go.RowKit Agg Pg Dv

end Go.Proofs.Ytgfmpkcgkjpgnaa
end
