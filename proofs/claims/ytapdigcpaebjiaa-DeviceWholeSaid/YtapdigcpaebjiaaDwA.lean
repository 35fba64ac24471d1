/-
  THE WALK OF LAYER 16's STATEMENT DeviceDoes.
-/
import Derived.Test.YtapdigcpaebjiaaDw3
namespace Pg
open Go Go.RowKit Agg
theorem pgs_stamped (P : List (List Sec)) (hP : ∀ b ∈ P, BOk b) (p : Nat) (h : p < P.length) (n : Nat) (r : List Value) (h0 : 0 < P[p].length) :
    spliced (P.flatMap blkC ++ r) (p * 132 + 0) [.int .u64 (n : Int)] = (P.set p (P[p].set 0 (n, P[p][0].2))).flatMap blkC ++ r := by
  have hb := hP _ (List.getElem_mem h)
  have hl : ((P.take p).flatMap blkC).length = p * 132 := by rw [flat_len blkC 132 _ (fun b hb => bok_cells (hP b (List.mem_of_mem_take hb))), List.length_take]; congr 1; omega
  have e2 : P.set p (P[p].set 0 (n, P[p][0].2)) = P.take p ++ (P[p].set 0 (n, P[p][0].2) :: P.drop (p + 1)) := by rw [List.set_eq_take_append_cons_drop, if_pos h]
  have e3 := blkC_stamped P[p] hb.len 0 h0 n ((P.drop (p + 1)).flatMap blkC ++ r)
  rw [Nat.zero_mul] at e3
  rw [Dv.pgs_cut P p h, e2, List.flatMap_append, List.flatMap_cons]
  simp only [List.append_assoc]
  rw [← e3, ← hl, Dv.spliced_app]
end Pg
namespace Dv
open Go Go.RowKit Agg Pg
theorem pgs_stamp (P : List (List Sec)) (hP : ∀ b ∈ P, BOk b) (p : Nat) (h : p < P.length) (r : List Value) (h0 : 0 < P[p].length) : (P.flatMap blkC ++ r)[p * 132]? = some (.int .u64 (P[p][0].1 : Int)) := by
  have hl : ((P.take p).flatMap blkC).length = p * 132 := by rw [flat_len blkC 132 _ (fun b hb => bok_cells (hP b (List.mem_of_mem_take hb))), List.length_take]; congr 1; omega
  rw [pgs_cut P p h, List.append_assoc, List.getElem?_append_right (by omega), hl, Nat.sub_self]
  generalize P[p] = b at *
  cases b with
  | nil => simp at h0
  | cons s t => rfl
theorem wrs_cut (l : List (Int × List Sec)) (p : Nat) (h : p < l.length) : l.flatMap wrC = (l.take p).flatMap wrC ++ (wrC l[p] ++ (l.drop (p + 1)).flatMap wrC) := by
  have e : l = l.take p ++ (l[p] :: l.drop (p + 1)) := by rw [List.getElem_cons_drop]; exact (List.take_append_drop p l).symm
  conv => lhs; rw [e]
  rw [List.flatMap_append, List.flatMap_cons]
theorem wrs_num (l : List (Int × List Sec)) (hl : ∀ x ∈ l, BOk x.2) (p : Nat) (h : p < l.length) (n : Int) (r : List Value) :
    spliced (l.flatMap wrC ++ r) (p * 133 + 0) [.int .i64 n] = (l.set p (n, l[p].2)).flatMap wrC ++ r := by
  have hk : ((l.take p).flatMap wrC).length = p * 133 := by rw [flat_len wrC 133 _ (fun b hb => wrC_length b (hl b (List.mem_of_mem_take hb))), List.length_take]; congr 1; omega
  have e2 : l.set p (n, l[p].2) = l.take p ++ ((n, l[p].2) :: l.drop (p + 1)) := by rw [List.set_eq_take_append_cons_drop, if_pos h]
  rw [wrs_cut l p h, e2, List.flatMap_append, List.flatMap_cons]
  simp only [List.append_assoc]
  rw [← hk, spliced_app]
  rfl
theorem wrs_num_at (l : List (Int × List Sec)) (hl : ∀ x ∈ l, BOk x.2) (p : Nat) (h : p < l.length) (r : List Value) : (l.flatMap wrC ++ r)[p * 133]? = some (.int .i64 l[p].1) := by
  have hk : ((l.take p).flatMap wrC).length = p * 133 := by rw [flat_len wrC 133 _ (fun b hb => wrC_length b (hl b (List.mem_of_mem_take hb))), List.length_take]; congr 1; omega
  rw [wrs_cut l p h, List.append_assoc, List.getElem?_append_right (by omega), hk, Nat.sub_self]
  rfl
theorem set_wok {l : List (Int × List Sec)} (hl : ∀ x ∈ l, BOk x.2) (p : Nat) (h : p < l.length) (n : Int) : ∀ x ∈ l.set p (n, l[p].2), BOk x.2 := by
  intro x hx
  rcases List.mem_or_eq_of_mem_set hx with h2 | h2
  · exact hl x h2
  · rw [h2]; exact hl l[p] (List.getElem_mem h)
theorem i64_any (z : Int) : ∃ n : Int, IntKind.i64.wrap z = n := ⟨_, rfl⟩
theorem u64_nat2 (z : Int) : ∃ n : Nat, IntKind.u64.wrap z = n ∧ n < 18446744073709551616 := by
  have e : IntKind.u64.wrap z = z % 18446744073709551616 := by simp [IntKind.wrap, IntKind.bits, IntKind.signed]
  rw [e]
  exact ⟨(z % 18446744073709551616).toNat, by omega, by omega⟩
end Dv
namespace Go.Proofs.Ytapdigcpaebjiaa
open Go.ChangeShapes Go.WideShapes Go.ChangeAt Go.RowKit Agg Pg Dv

theorem laid_good {w : World} {x : LaidD} {fv cv : Value} (h : LaidOk w x fv cv) : DGood (laidD x) :=
  ⟨(laidP_ok x (fun f hf => (h.2.2.1 f hf).1) _).2, laidL_bok x (fun f hf => (h.2.2.2 f hf).1) _, fun y hy => by
    obtain ⟨f, hf, rfl⟩ := List.mem_map.1 hy
    exact (h.2.2.2 f (List.mem_of_mem_take (List.mem_of_mem_take hf))).2, by
    show (laidP x _).length ≤ 257
    rw [(laidP_ok x (fun f hf => (h.2.2.1 f hf).1) _).1]; exact laidN_le x⟩
theorem laid_few (x : LaidD) : (laidD x).cache.length ≤ 40 := laidL_len x _
theorem device_R {x : LaidD} {fv cv : Value} {w : World} (h : LaidOk w x fv cv) :
    Calls Try.prog 10 #[.agg (laidC x fv cv).toArray] w fun e w' => ∃ v, e = .returned v ∧ DevO w.heap.size w' v (laidD x) ∧ Below w.heap.size w w' :=
  device_any x fv cv (fun f hf => (h.2.2.1 f hf).1) (fun f hf => (h.2.2.2 f hf).1) w h.1 h.2.1
theorem device_RR {x : LaidD} {fv cv : Value} {w : World} (h : LaidOk w x fv cv) :
    Calls Try.prog 10 #[.agg (laidC x fv cv).toArray] w fun e w' => ∃ v, e = .returned v ∧ DevRV (laidD x) v w' ∧ Below w.heap.size w w' :=
  (device_R h).mono (by rintro e w' ⟨v, h1, h2, h3⟩; exact ⟨v, h1, h2.read, h3⟩)
theorem DevRV.keep {w w' : World} {v : Value} {d : Dev} (h : DevRV d v w) (hb : Below w.heap.size w w') : DevRV d v w' := DevR.keep h hb
set_option maxHeartbeats 4000000 in
set_option maxRecDepth 100000 in
theorem does_walk (x : LaidD) (fv cv : Value) (o : OpD) (mv : Value) (w : World) (hx : LaidOk w x fv cv) (ho : OpOk w o mv) :
    Calls Try.prog 3 #[.agg (laidC x fv cv).toArray, .agg (opC o mv).toArray] w fun e w' => e = .returned (.bool true) ∧ Below w.heap.size w w' := by
  have HX := Lib.hid hx
  have HO := Lib.hid ho
  have G1 := Lib.hid (laid_good hx)
  have G2 := Lib.hid (doesP_good ho.1.1 (laid_good hx))
  have C1 : Hid ((laidD x).cache.length ≤ 1000000) := Lib.hid (Nat.le_trans (laid_few x) (by decide))
  have C2 : Hid ((doesP o (laidD x)).2.cache.length ≤ 1000000) := Lib.hid (Nat.le_trans (doesP_len _ _) (by have := laid_few x; omega))
  have HFO := Lib.hid ho.1.1
  obtain ⟨d, hd⟩ : ∃ d, laidD x = d := ⟨_, rfl⟩
  have HDV : Hid (∀ W, LaidOk W x fv cv → Calls Try.prog 10 #[.agg (laidC x fv cv).toArray] W fun e w' => ∃ v, e = .returned v ∧ DevRV d v w' ∧ Below W.heap.size W w') := Lib.hid (fun W h => by have := device_RR h; rwa [hd] at this)
  rw [hd] at G1 C1 G2 C2
  obtain ⟨g, hg⟩ : ∃ g, doesP o d = g := ⟨_, rfl⟩
  have HDO : Hid (∀ W v, OpOk W o mv → DevR W v d → Calls Try.prog 11 #[.agg (opC o mv).toArray, v] W fun e w' => ∃ u, e = .returned (.tuple #[u, .int .i64 g.1]) ∧ DevO W.heap.size w' u g.2 ∧ Below W.heap.size W w') := Lib.hid (fun W v h hv => by have := does_R HFO.out G1.out C1.out h.2.1 hv; rwa [hg] at this)
  have HWA : Hid (∀ W v, OpOk W o mv → DevR W v d → Calls Try.prog 12 #[.agg (opC o mv).toArray, v] W fun e w' => ∃ u, e = .returned (.tuple #[u, .int .i64 g.1]) ∧ DevR w' u g.2 ∧ Below W.heap.size W w') := Lib.hid (fun W v h hv => by have := wants_R HFO.out G1.out C1.out h.2.1 hv; rwa [hg] at this)
  rw [hg] at G2 C2
  have HLC : Hid ((laidC x fv cv).length = 5) := Lib.hid rfl
  have HOC := Lib.hid (opC_length HFO.out mv)
  clear hx ho hd hg
  have HB := Lib.hid (Below.refl w.heap.size w)
  go_enter Try.func3, Try.ntmps3
  go_upto_region 1 with (fail)
  refine Agg.wp_at fun w1 hw1 => ?_
  have hb : Below w.heap.size w w1 := by rw [hw1.out]; repeat (first | exact Below.refl _ _ | refine Agg.bel_drew ?_ | refine Agg.bel_alloc ?_ _)
  replace HB := Lib.hid (HB.out.trans (hb.mono HB.out.size))
  replace HX := Lib.hid (HX.out.keep hb)
  replace HO := Lib.hid (HO.out.keep hb)
  clear hb
  have H1 : Hid (Blk w1 w.heap.size 24 (laidC x fv cv)) := by show Blk _ _ _ _; rw [hw1.out]; exact (Blk.new w 24 (laidC x fv cv).toArray).al _
  have H2 : Hid (Blk w1 (w.heap.size + 1) 31 (opC o mv)) := by show Blk _ _ _ _; rw [hw1.out]; exact Blk.newAt (w.alloc _) 31 (opC o mv).toArray _ (by simp)
  clear hw1
  go_wp2_with fail
  refine (wakes_any w1).mono ?_
  rintro e w2 ⟨rfl, hb⟩
  replace HB := Lib.hid (HB.out.trans (hb.mono HB.out.size))
  replace HX := Lib.hid (HX.out.keep hb)
  replace HO := Lib.hid (HO.out.keep hb)
  replace H1 := Lib.hid (H1.out.keep hb)
  replace H2 := Lib.hid (H2.out.keep hb)
  clear hb
  have h1 := H1.out
  go_wp2_with (refine Agg.gLoadB 5 h1 HLC.out rfl rfl rfl (by decide +kernel) ?_; simp only [Act.put, List.setIfInBounds_toArray, List.set_cons_succ, List.set_cons_zero])
  clear h1
  refine (HDV.out w2 HX.out).mono ?_
  rintro e w3 ⟨u, rfl, hu, hb⟩
  replace HB := Lib.hid (HB.out.trans (hb.mono HB.out.size))
  replace HX := Lib.hid (HX.out.keep hb)
  replace HO := Lib.hid (HO.out.keep hb)
  replace H1 := Lib.hid (H1.out.keep hb)
  replace H2 := Lib.hid (H2.out.keep hb)
  clear hb
  have HU := Lib.hid hu
  obtain ⟨px, pc, cx, cc, rfl⟩ := DevR.shape HU.out
  clear hu
  go_upto_region 4 with (fail)
  refine Agg.wp_at fun w4 hw4 => ?_
  have hb : Below w3.heap.size w3 w4 := by rw [hw4.out]; repeat (first | exact Below.refl _ _ | refine Agg.bel_drew ?_ | refine Agg.bel_alloc ?_ _)
  replace HB := Lib.hid (HB.out.trans (hb.mono HB.out.size))
  replace HX := Lib.hid (HX.out.keep hb)
  replace HO := Lib.hid (HO.out.keep hb)
  replace H1 := Lib.hid (H1.out.keep hb)
  replace H2 := Lib.hid (H2.out.keep hb)
  replace HU := Lib.hid (HU.out.keep hb)
  clear hb
  have H5 : Hid (Blk w4 w3.heap.size 36 [.slice px d.pages.length pc, .slice cx d.cache.length cc, .int .i64 d.fuse, .bool d.off]) := by show Blk _ _ _ _; rw [hw4.out]; exact Blk.new w3 36 #[.slice px d.pages.length pc, .slice cx d.cache.length cc, .int .i64 d.fuse, .bool d.off]
  clear hw4
  generalize w3.heap.size = g5 at *
  have h2 := H2.out
  have xH5_0 := H5.out.cell 0
  have xH5_1 := H5.out.cell 1
  have xH5_2 := H5.out.cell 2
  have xH5_3 := H5.out.cell 3
  have lH5 := H5.out.lt
  simp only [List.getElem?_cons_zero, List.getElem?_cons_succ] at xH5_0 xH5_1 xH5_2 xH5_3
  go_wp2_with (refine Agg.gLoadB 9 h2 HOC.out rfl rfl rfl (by decide +kernel) ?_; simp only [Act.put, List.setIfInBounds_toArray, List.set_cons_succ, List.set_cons_zero])
  clear h2
  obtain ⟨W0, hW0⟩ : ∃ x, x = w4 := ⟨_, rfl⟩
  have HFR : Hid (From W0 w4) := Lib.hid (by rw [hW0]; exact Below.refl _ _)
  have HX0 : Hid (LaidOk W0 x fv cv) := by rw [hW0]; exact HX
  have H10 : Hid (Blk W0 w.heap.size 24 (laidC x fv cv)) := by rw [hW0]; exact H1
  have HU0 : Hid (DevRV d (.agg #[.slice px d.pages.length pc, .slice cx d.cache.length cc, .int .i64 d.fuse, .bool d.off]) W0) := by rw [hW0]; exact HU
  have H50 : Hid (Blk W0 g5 36 [.slice px d.pages.length pc, .slice cx d.cache.length cc, .int .i64 d.fuse, .bool d.off]) := by rw [hW0]; exact H5
  have HB0 : Hid (Below w.heap.size w W0) := by rw [hW0]; exact HB
  clear xH5_0 xH5_1 xH5_2 xH5_3 lH5
  refine (HDO.out w4 _ HO.out HU.out).mono ?_
  rintro e w5 ⟨un, rfl, hn, hb⟩
  replace HB := Lib.hid (HB.out.trans (hb.mono HB.out.size))
  replace HX := Lib.hid (HX.out.keep hb)
  replace HO := Lib.hid (HO.out.keep hb)
  replace H1 := Lib.hid (H1.out.keep hb)
  replace H2 := Lib.hid (H2.out.keep hb)
  replace HU := Lib.hid (HU.out.keep hb)
  replace H5 := Lib.hid (H5.out.keep hb)
  replace HFR := Lib.hid (HFR.out.keep hb)
  clear hb
  rw [← hW0] at hn
  clear hW0
  have HN := Lib.hid hn
  obtain ⟨pn, pnc, cn, cnc, rfl⟩ := DevR.shape hn.read
  clear hn
  have hfs := HFR.out.size
  go_upto_region 5 with (fail)
  refine Agg.wp_at fun w6 hw6 => ?_
  have hb : Below w5.heap.size w5 w6 := by rw [hw6.out]; repeat (first | exact Below.refl _ _ | refine Agg.bel_drew ?_ | refine Agg.bel_alloc ?_ _)
  replace HB := Lib.hid (HB.out.trans (hb.mono HB.out.size))
  replace HX := Lib.hid (HX.out.keep hb)
  replace HO := Lib.hid (HO.out.keep hb)
  replace H1 := Lib.hid (H1.out.keep hb)
  replace H2 := Lib.hid (H2.out.keep hb)
  replace HU := Lib.hid (HU.out.keep hb)
  replace H5 := Lib.hid (H5.out.keep hb)
  replace HFR := Lib.hid (HFR.out.keep hb)
  replace HN := Lib.hid (HN.out.keep hb)
  clear hb
  have H6 : Hid (Blk w6 w5.heap.size 36 [.slice pn g.2.pages.length pnc, .slice cn g.2.cache.length cnc, .int .i64 g.2.fuse, .bool g.2.off]) := by show Blk _ _ _ _; rw [hw6.out]; exact Blk.new w5 36 #[.slice pn g.2.pages.length pnc, .slice cn g.2.cache.length cnc, .int .i64 g.2.fuse, .bool g.2.off]
  clear hw6
  have H6G : W0.heap.size ≤ w5.heap.size := hfs
  generalize w5.heap.size = g6 at *
  have h2 := H2.out
  have xH5_0 := H5.out.cell 0
  have xH5_1 := H5.out.cell 1
  have xH5_2 := H5.out.cell 2
  have xH5_3 := H5.out.cell 3
  have lH5 := H5.out.lt
  simp only [List.getElem?_cons_zero, List.getElem?_cons_succ] at xH5_0 xH5_1 xH5_2 xH5_3
  go_wp2_with (refine Agg.gLoadB 9 h2 HOC.out rfl rfl rfl (by decide +kernel) ?_; simp only [Act.put, List.setIfInBounds_toArray, List.set_cons_succ, List.set_cons_zero])
  clear h2
  clear xH5_0 xH5_1 xH5_2 xH5_3 lH5
  refine (HWA.out w6 _ HO.out HU.out).mono ?_
  rintro e w7 ⟨uw, rfl, hw, hb⟩
  replace HB := Lib.hid (HB.out.trans (hb.mono HB.out.size))
  replace HX := Lib.hid (HX.out.keep hb)
  replace HO := Lib.hid (HO.out.keep hb)
  replace H1 := Lib.hid (H1.out.keep hb)
  replace H2 := Lib.hid (H2.out.keep hb)
  replace HU := Lib.hid (HU.out.keep hb)
  replace H5 := Lib.hid (H5.out.keep hb)
  replace HFR := Lib.hid (HFR.out.keep hb)
  replace HN := Lib.hid (HN.out.keep hb)
  replace H6 := Lib.hid (H6.out.keep hb)
  clear hb
  have HWN := Lib.hid hw
  obtain ⟨pw, pwc, cw, cwc, rfl⟩ := DevR.shape hw
  clear hw
  go_upto_region 6 with (fail)
  refine Agg.wp_at fun w8 hw8 => ?_
  have hb : Below w7.heap.size w7 w8 := by rw [hw8.out]; repeat (first | exact Below.refl _ _ | refine Agg.bel_drew ?_ | refine Agg.bel_alloc ?_ _)
  replace HB := Lib.hid (HB.out.trans (hb.mono HB.out.size))
  replace HX := Lib.hid (HX.out.keep hb)
  replace HO := Lib.hid (HO.out.keep hb)
  replace H1 := Lib.hid (H1.out.keep hb)
  replace H2 := Lib.hid (H2.out.keep hb)
  replace HU := Lib.hid (HU.out.keep hb)
  replace H5 := Lib.hid (H5.out.keep hb)
  replace HFR := Lib.hid (HFR.out.keep hb)
  replace HN := Lib.hid (HN.out.keep hb)
  replace H6 := Lib.hid (H6.out.keep hb)
  replace HWN := Lib.hid (HWN.out.keep hb)
  clear hb
  have H8 : Hid (Blk w8 w7.heap.size 36 [.slice pw g.2.pages.length pwc, .slice cw g.2.cache.length cwc, .int .i64 g.2.fuse, .bool g.2.off]) := by show Blk _ _ _ _; rw [hw8.out]; exact Blk.new w7 36 #[.slice pw g.2.pages.length pwc, .slice cw g.2.cache.length cwc, .int .i64 g.2.fuse, .bool g.2.off]
  clear hw8
  generalize w7.heap.size = g8 at *
  refine Agg.chainR 16 (by kernel_rfl) (by kernel_rfl) ?_
  simp only [List.take_succ_cons, List.take_zero, List.drop_succ_cons, List.drop_zero]
  refine Agg.chMove rfl rfl rfl rfl ?_
  refine Agg.chMove rfl rfl rfl rfl ?_
  refine Agg.chNe false (by simp) rfl rfl rfl rfl rfl ?_
  refine Agg.chMove rfl rfl rfl rfl ?_
  refine Agg.chRowB 4 H6.out rfl (by decide +kernel) rfl rfl rfl rfl ?_
  refine Agg.chRowB 4 H8.out rfl (by decide +kernel) rfl rfl rfl rfl ?_
  refine Agg.chCall Try.func13 rfl (by kernel_rfl) rfl rfl rfl rfl (fun W hb => rSame_R G2.out G2.out (DevR.keep (DevO.read HN.out) hb) (DevR.keep HWN.out hb) true (by simp)) ?_
  refine Agg.chNot rfl rfl rfl rfl ?_
  refine Agg.chPick rfl rfl rfl rfl rfl ?_
  refine Agg.chMove rfl rfl rfl rfl ?_
  refine Agg.chRowB 4 H5.out rfl (by decide +kernel) rfl rfl rfl rfl ?_
  refine Agg.chRowB 5 H1.out HLC.out (by decide +kernel) rfl rfl rfl rfl ?_
  refine Agg.chCallG Try.func10 rfl (by kernel_rfl) (DevRV d) (DevRV.stable _) rfl rfl rfl rfl (fun W hb => HDV.out W (HX.out.keep hb)) ?_
  refine Agg.chCall2 Try.func13 rfl (by kernel_rfl) (.bool true) 12 rfl rfl rfl rfl rfl rfl rfl (fun u W hb hu => rSame_R G1.out G1.out (DevR.keep HU.out hb) hu true (by simp)) ?_
  refine Agg.chNot rfl rfl rfl rfl ?_
  refine Agg.chPick rfl rfl rfl rfl rfl ?_
  refine Agg.chEnd ?_
  intro vs w9 hb _
  refine Agg.wpNil ?_
  simp only [List.reverse, List.reverseAux, Agg.fill, List.set_cons_succ, List.set_cons_zero]
  replace HB := Lib.hid (HB.out.trans (hb.mono HB.out.size))
  replace HX := Lib.hid (HX.out.keep hb)
  replace HO := Lib.hid (HO.out.keep hb)
  replace H1 := Lib.hid (H1.out.keep hb)
  replace H2 := Lib.hid (H2.out.keep hb)
  replace HU := Lib.hid (HU.out.keep hb)
  replace H5 := Lib.hid (H5.out.keep hb)
  replace HFR := Lib.hid (HFR.out.keep hb)
  replace HN := Lib.hid (HN.out.keep hb)
  replace H6 := Lib.hid (H6.out.keep hb)
  replace HWN := Lib.hid (HWN.out.keep hb)
  replace H8 := Lib.hid (H8.out.keep hb)
  clear hb
  clear HU H5 HX HO H1 H2 HWN H8 HDO HWA HB HOC HFO
  obtain ⟨p0, c0, hve, hp0, hc0⟩ := HN.out
  simp only [Value.agg.injEq, Array.mk.injEq, List.cons.injEq, and_true] at hve
  obtain ⟨rfl, rfl, -⟩ := hve
  have HPO := Lib.hid hp0
  have HCO := Lib.hid hc0
  have HPB := Lib.hid G2.out.pages
  have HCB := Lib.hid G2.out.cache
  have HPN : Hid (g.2.pages.length ≤ 1000000) := Lib.hid (Nat.le_trans G2.out.n1 (by decide))
  have HG6 : Hid (W0.heap.size ≤ g6) := Lib.hid H6G
  clear hp0 hc0 HN
  have xH6_0 := H6.out.cell 0
  have xH6_1 := H6.out.cell 1
  have xH6_2 := H6.out.cell 2
  have xH6_3 := H6.out.cell 3
  have lH6 := H6.out.lt
  simp only [List.getElem?_cons_zero, List.getElem?_cons_succ] at xH6_0 xH6_1 xH6_2 xH6_3
  go_wp2_with fail
  clear xH6_0 xH6_1 xH6_2 xH6_3 lH6
  go_loopw [47, 10] (fun i v wr => ∃ (k : Nat) (Q : List (List Sec)), k ≤ g.2.pages.length ∧ i = .int .i64 k ∧ Q.length = g.2.pages.length ∧ (∀ b ∈ Q, BOk b) ∧ From W0 wr ∧ Blk wr g6 36 [.slice pn g.2.pages.length pnc, .slice cn g.2.cache.length cnc, .int .i64 g.2.fuse, .bool g.2.off] ∧ wr.ownsRow W0.heap.size 46 132 (.slice pn g.2.pages.length pnc) g.2.pages.length (Q.flatMap blkC) ∧ wr.ownsRow W0.heap.size 48 133 (.slice cn g.2.cache.length cnc) g.2.cache.length (g.2.cache.flatMap wrC)) (fun i _ _ => g.2.pages.length - (intOf i).toNat)
  case atStart => exact ⟨0, g.2.pages, by omega, rfl, rfl, HPB.out, HFR.out, H6.out, HPO.out, HCO.out⟩
  case round =>
    obtain ⟨k, Q, hk, rfl, hQl, hQB, hF, hB6, hPO, hCO⟩ := hrel
    replace HFR := Lib.hid hF
    replace H6 := Lib.hid hB6
    replace HPO := Lib.hid hPO
    replace HCO := Lib.hid hCO
    have HQB := Lib.hid hQB
    have HQL := Lib.hid hQl
    have hk6 : k ≤ 1000000 := Nat.le_trans hk HPN.out
    clear hF hB6 hPO hCO hQB hQl
    obtain ⟨wA, hwA⟩ : ∃ x, x = wr := ⟨_, rfl⟩
    subst hwA
    have HB : Hid (Below w.heap.size w wA) := Lib.hid (HB0.out.trans (HFR.out.mono HB0.out.size))
    by_cases hlt : k < g.2.pages.length
    · obtain ⟨pg, po, cap', hve, _, _, _, _⟩ := SlR.pos (ownSl HPO.out) (by decide) (by omega)
      simp only [Value.slice.injEq, true_and] at hve
      obtain ⟨rfl, rfl⟩ := hve
      obtain rfl : po = 0 := by
        rcases HPO.out.2 with ⟨h, _⟩ | ⟨g', cap', cur, h, _⟩
        · cases h
        · cases h; rfl
      obtain ⟨rs, hk0, hbg, hpc1, hpc2, hrl⟩ := own_blk HPO.out
      have HRL := Lib.hid (And.intro hbg (And.intro hpc1 (And.intro hpc2 hrl)))
      have hkQ : k < Q.length := by rw [HQL.out]; exact hlt
      have h4 : 0 < Q[k].length := by rw [(HQB.out _ (List.getElem_mem hkQ)).1]; decide
      have hst := hk0.cell (k * 132)
      rw [pgs_stamp Q HQB.out k hkQ rs h4] at hst
      have HST := Lib.hid hst
      have HK0 := Lib.hid hk0
      obtain ⟨nst, hn1, hn2⟩ := u64_nat2 ((Q[k][0].1 : Int) + 7)
      have HSET := Lib.hid (pgs_stamped Q HQB.out k hkQ nst rs h4)
      have HNQ : Hid (BOk (Q[k].set 0 (nst, Q[k][0].2))) := Lib.hid ⟨by rw [List.length_set]; exact (HQB.out _ (List.getElem_mem hkQ)).1, by
        intro s hs
        rcases List.mem_or_eq_of_mem_set hs with h | h
        · exact (HQB.out _ (List.getElem_mem hkQ)).2 s h
        · rw [h]; exact ⟨((HQB.out Q[k] (List.getElem_mem hkQ)).2 Q[k][0] (List.getElem_mem h4)).1, hn2⟩⟩
      have HNE : Hid (g6 ≠ pg) := Lib.hid (Ne.symm (blk_ne HK0.out H6.out bDne))
      clear hbg hpc1 hpc2 hrl hst hk0
      obtain ⟨st, hst⟩ : ∃ st, Q[k][0] = st := ⟨_, rfl⟩
      rw [hst] at HSET HST HNQ hn1
      generalize Q[k].set 0 (nst, st.2) = qn at *
      clear hst h4
      have xH6_0 := H6.out.cell 0
      have xH6_1 := H6.out.cell 1
      have xH6_2 := H6.out.cell 2
      have xH6_3 := H6.out.cell 3
      have lH6 := H6.out.lt
      simp only [List.getElem?_cons_zero, List.getElem?_cons_succ] at xH6_0 xH6_1 xH6_2 xH6_3
      go_upto_region 11 with (fail)
      have hfit : k * 132 + 0 + 1 ≤ (Q.flatMap blkC ++ rs).length := by
        rw [List.length_append, flat_len blkC 132 _ (fun b hb => bok_cells (HQB.out b hb))]
        have : (k + 1) * 132 ≤ Q.length * 132 := Nat.mul_le_mul_right _ hkQ
        omega
      refine Agg.chainR 11 (by kernel_rfl) (by kernel_rfl) ?_
      simp only [List.take_succ_cons, List.take_zero, List.drop_succ_cons, List.drop_zero]
      refine Agg.chFA (by first | exact fo_fo_Dev_0 | exact fo_fo_Wr_0 | exact fo_fo_Tu_0 | exact fo_fo_Op_0 | exact fo_fo_Fl_0 | exact fo_fo_Se_0) rfl rfl rfl rfl ?_
      refine Agg.chLoadB H6.out (by decide +kernel) rfl rfl (by rfl) rfl rfl ?_
      refine Agg.chMove rfl rfl rfl rfl ?_
      refine Agg.chIA tiBl (by omega) (by omega) rfl rfl rfl rfl rfl ?_
      refine Agg.chIAA aiBl (by omega) (by omega) rfl rfl rfl rfl rfl ?_
      refine Agg.chFA fo_fo_Se_0 rfl rfl rfl rfl ?_
      refine Agg.chLoad rfl rfl rfl rfl (by decide +kernel) (by simpa using HST.out) ?_
      refine Agg.chAr rfl rfl rfl rfl rfl rfl ?_
      refine Agg.chIA tiBl (by omega) (by omega) rfl rfl rfl rfl rfl ?_
      refine Agg.chIAA aiBl (by omega) (by omega) rfl rfl rfl rfl rfl ?_
      refine Agg.chFA fo_fo_Se_0 rfl rfl rfl rfl ?_
      refine Agg.chEnd ?_
      intro vs w31 hb hf
      simp only [List.reverse, List.reverseAux, Agg.Facts] at hf
      obtain _ := hf
      simp only [List.reverse, List.reverseAux, Agg.fill, List.set_cons_succ, List.set_cons_zero]
      simp only [Nat.zero_add, Int.toNat_natCast]
      rw [hn1]
      refine Agg.gStoreCell (k * 132 + 0) (.int .u64 nst) (HK0.out.keep hb) rfl rfl rfl rfl rfl (by kernel_rfl) rfl hfit rfl (fun w12 hb12 hg12 => ?_)
      rw [HSET.out] at hb12
      have hF12 := (HFR.out.keep hb).trans (grown_below hg12 (HFR.out.keep hb).size (fun j hj => (by cases hj; exact HRL.out.1)))
      have h612 := (H6.out.keep hb).far' hg12 HNE.out
      have hC12 := (own_keep HCO.out hb).kept hg12 (own_apart (own_keep HCO.out hb) (HK0.out.keep hb) (Ne.symm bWne))
      refine Agg.wpNil ?_
      clear hg12 hb HCO HK0 HFR H6 HB
      clear xH6_0 xH6_1 xH6_2 xH6_3 lH6
      have hQN : (Q.set k qn).length = g.2.pages.length := by rw [List.length_set]; exact HQL.out
      have hQM : ∀ b ∈ Q.set k qn, BOk b := set_bok HQB.out k HNQ.out
      have hO := blk_own hb12 HRL.out.1 HRL.out.2.1 HRL.out.2.2.1 (sz := 132) (n := g.2.pages.length) (by rw [List.length_append, flat_len blkC 132 _ (fun b hb => bok_cells (hQM b hb)), hQN, ← HQL.out, ← flat_len blkC 132 Q (fun b hb => bok_cells (HQB.out b hb)), ← List.length_append]; exact HRL.out.2.2.2) (by rw [flat_len blkC 132 _ (fun b hb => bok_cells (hQM b hb)), hQN])
      go_wp2_with fail
      go_roundw
      case rel =>
        refine ⟨_, _, _, _, _, _, _, _, _, _, _, _, _, _, _, _, ?_, rfl⟩
        exact ⟨k + 1, Q.set k qn, by omega, by go_num, hQN, hQM, hF12, h612, hO, hC12⟩
      case measure => simp [intOf]; omega
    · obtain rfl : k = g.2.pages.length := by omega
      clear HPO HQB HQL
      have xH6_0 := H6.out.cell 0
      have xH6_1 := H6.out.cell 1
      have xH6_2 := H6.out.cell 2
      have xH6_3 := H6.out.cell 3
      have lH6 := H6.out.lt
      simp only [List.getElem?_cons_zero, List.getElem?_cons_succ] at xH6_0 xH6_1 xH6_2 xH6_3
      go_wp2_with fail
      clear xH6_0 xH6_1 xH6_2 xH6_3 lH6
      go_loopw [65, 11] (fun i v wr => ∃ (k : Nat) (L : List (Int × List Sec)), k ≤ g.2.cache.length ∧ i = .int .i64 k ∧ L.length = g.2.cache.length ∧ (∀ x ∈ L, BOk x.2) ∧ From W0 wr ∧ Blk wr g6 36 [.slice pn g.2.pages.length pnc, .slice cn g.2.cache.length cnc, .int .i64 g.2.fuse, .bool g.2.off] ∧ wr.ownsRow W0.heap.size 48 133 (.slice cn g.2.cache.length cnc) g.2.cache.length (L.flatMap wrC)) (fun i _ _ => g.2.cache.length - (intOf i).toNat)
      case atStart => exact ⟨0, g.2.cache, by omega, rfl, rfl, HCB.out, HFR.out, H6.out, HCO.out⟩
      case round =>
        obtain ⟨j, L, hj, rfl, hLl, hLB, hF, hB6, hCO⟩ := hrel
        replace HFR := Lib.hid hF
        replace H6 := Lib.hid hB6
        replace HCO := Lib.hid hCO
        have HLB := Lib.hid hLB
        have HLL := Lib.hid hLl
        have hj6 : j ≤ 1000000 := Nat.le_trans hj C2.out
        clear hF hB6 hCO hLB hLl HB
        obtain ⟨wC, hwC⟩ : ∃ x, x = wr := ⟨_, rfl⟩
        subst hwC
        have HB : Hid (Below w.heap.size w wC) := Lib.hid (HB0.out.trans (HFR.out.mono HB0.out.size))
        by_cases hlt2 : j < g.2.cache.length
        · obtain ⟨pg, po, cap', hve, _, _, _, _⟩ := SlR.pos (ownSl HCO.out) (by decide) (by omega)
          simp only [Value.slice.injEq, true_and] at hve
          obtain ⟨rfl, rfl⟩ := hve
          obtain rfl : po = 0 := by
            rcases HCO.out.2 with ⟨h, _⟩ | ⟨g', cap', cur, h, _⟩
            · cases h
            · cases h; rfl
          obtain ⟨rs, hk0, hbg, hpc1, hpc2, hrl⟩ := own_blk HCO.out
          have HRL := Lib.hid (And.intro hbg (And.intro hpc1 (And.intro hpc2 hrl)))
          have hkL : j < L.length := by rw [HLL.out]; exact hlt2
          have hst := hk0.cell (j * 133)
          rw [wrs_num_at L HLB.out j hkL rs] at hst
          have HK0 := Lib.hid hk0
          obtain ⟨nst, hn1⟩ := i64_any (L[j].1 + 7)
          have HSET := Lib.hid (wrs_num L HLB.out j hkL nst rs)
          have HLM := Lib.hid (set_wok HLB.out j hkL nst)
          have HNE : Hid (g6 ≠ pg) := Lib.hid (Ne.symm (blk_ne HK0.out H6.out wDne))
          have hfit : j * 133 + 0 + 1 ≤ (L.flatMap wrC ++ rs).length := by
            rw [List.length_append, flat_len wrC 133 _ (fun b hb => wrC_length b (HLB.out b hb))]
            have : (j + 1) * 133 ≤ L.length * 133 := Nat.mul_le_mul_right _ hkL
            omega
          generalize L[j] = s at *
          clear hbg hpc1 hpc2 hrl hk0
          have xH6_0 := H6.out.cell 0
          have xH6_1 := H6.out.cell 1
          have xH6_2 := H6.out.cell 2
          have xH6_3 := H6.out.cell 3
          have lH6 := H6.out.lt
          simp only [List.getElem?_cons_zero, List.getElem?_cons_succ] at xH6_0 xH6_1 xH6_2 xH6_3
          go_upto_region 16 with (fail)
          clear HB
          go_wp2_with (refine Agg.gStoreCell (j * 133 + 0) (.int .i64 nst) HK0.out rfl rfl rfl rfl rfl (by kernel_rfl) rfl hfit rfl (fun w12 hb12 hg12 => ?_))
          rw [HSET.out] at hb12
          have hF12 := HFR.out.trans (grown_below hg12 HFR.out.size (fun j hj => (by cases hj; exact HRL.out.1)))
          have h612 := H6.out.far' hg12 HNE.out
          have hLN : (L.set j (nst, s.2)).length = g.2.cache.length := by rw [List.length_set]; exact HLL.out
          have hO := blk_own hb12 HRL.out.1 HRL.out.2.1 HRL.out.2.2.1 (sz := 133) (n := g.2.cache.length) (by rw [List.length_append, flat_len wrC 133 _ (fun b hb => wrC_length b (HLM.out b hb)), hLN, ← HLL.out, ← flat_len wrC 133 L (fun b hb => wrC_length b (HLB.out b hb)), ← List.length_append]; exact HRL.out.2.2.2) (by rw [flat_len wrC 133 _ (fun b hb => wrC_length b (HLM.out b hb)), hLN])
          exact ⟨⟨j + 1, L.set j (nst, s.2), by omega, by go_num, hLN, HLM.out, hF12, h612, hO⟩, by simp [intOf]; omega⟩
        · obtain rfl : j = g.2.cache.length := by omega
          clear HCO HLB HLL HPB HCB
          have H5 := Lib.hid (H50.out.keep HFR.out)
          have H1 := Lib.hid (H10.out.keep HFR.out)
          have HX := Lib.hid (HX0.out.keep HFR.out)
          have HU := Lib.hid (DevRV.keep HU0.out HFR.out)
          go_upto_region 18 with (fail)
          refine Agg.chainR 5 (by kernel_rfl) (by kernel_rfl) ?_
          simp only [List.take_succ_cons, List.take_zero, List.drop_succ_cons, List.drop_zero]
          refine Agg.chRowB 4 H5.out rfl (by decide +kernel) rfl rfl rfl rfl ?_
          refine Agg.chRowB 5 H1.out HLC.out (by decide +kernel) rfl rfl rfl rfl ?_
          refine Agg.chCallG Try.func10 rfl (by kernel_rfl) (DevRV d) (DevRV.stable _) rfl rfl rfl rfl (fun W hb => HDV.out W (HX.out.keep hb)) ?_
          refine Agg.chCall2 Try.func13 rfl (by kernel_rfl) (.bool true) 2 rfl rfl rfl rfl rfl rfl rfl (fun u W hb hu => rSame_R G1.out G1.out (DevR.keep HU.out hb) hu true (by simp)) ?_
          refine Agg.chAssign rfl rfl rfl rfl ?_
          refine Agg.chEnd ?_
          intro vs w51 hb _
          refine Agg.wpNil ?_
          simp only [List.reverse, List.reverseAux, Agg.fill, List.set_cons_succ, List.set_cons_zero]
          replace HB := Lib.hid (HB.out.trans (hb.mono HB.out.size))
          replace H5 := Lib.hid (H5.out.keep hb)
          replace H1 := Lib.hid (H1.out.keep hb)
          replace HX := Lib.hid (HX.out.keep hb)
          clear hb
          go_wp2_with fail
          go_ret
          exact ⟨rfl, HB.out⟩
theorem DeviceDoes_walk (c0 : Array Value) (f0 : Nat) (c1 : Array Value) (f1 : Nat) (w : World) (h0 : Agg.Good Try.prog w f0 24 c0.toList) (h1 : Agg.Good Try.prog w f1 31 c1.toList) :
    Calls Try.prog 3 #[.agg c0, .agg c1] w fun e w' => e = .returned (.bool true) ∧ Below w.heap.size w w' := by
  obtain ⟨x, fv, cv, rfl, hx⟩ := good_laid h0
  obtain ⟨o, mv, rfl, ho⟩ := good_op h1
  exact does_walk x fv cv o mv w hx ho
end Go.Proofs.Ytapdigcpaebjiaa
