/-
  THE LOG: the layer wakes.
-/
import Derived.Test.YtlddjcilbpcciaaLhP
import Derived.Test.YtlddjcilbpcciaaLg8
import Derived.Test.YtlddjcilbpcciaaLFdDw1
import Derived.Test.YtlddjcilbpcciaaLDv7
import Derived.Test.YtlddjcilbpcciaaGood
section
namespace Lg
open Go Go.RowKit Agg Pg Dv
section
variable {P : Program} {l0 : List Value} {w : World} {o : Oper}
theorem run_mk {t e : TypeId} {size bytes : Nat} {z : Value} (T : TI P t e size bytes z) {x y : Operand} (ho : o.op = .makeSlice t x y) {kl kc : IntKind} (l c : Nat) {li ci : Int}
    (hx : ev l0 x = .int kl li) (hy : ev l0 y = .int kc ci) (hl : li = (l : Int)) (hc : ci = (c : Int)) (hlc : l ≤ c) (hb : c * bytes ≤ 140737488355328) (h63 : c ≤ maxLen) :
    (execOp (ev l0) o).run P w = .ok (.value (.slice (some ⟨w.heap.size, 0, none⟩) l c)) (w.alloc (.cells (madeCells z.cells (c * size)) e)) := by
  obtain ⟨i, hi, hz, hs, hbt⟩ := T.info
  subst hl; subst hc
  have h63' : (c : Int) ≤ 9223372036854775807 := by unfold maxLen at h63; omega
  have hb' : (i.bytes : Int) * (c : Int) ≤ 281474976710656 := by
    rw [hbt, ← Int.natCast_mul, Nat.mul_comm]; omega
  have hr := run_make (P := P) w t e i z T.ht hi hz kl kc l c (by omega) (by omega) hb' h63'
  simp only [Int.toNat_natCast, hs] at hr
  simp only [execOp, ho, hx, hy, Sem.run_bind, hr, Result.andThen_ok, Sem.run_pure]
theorem run_ex {i : Nat} {x : Operand} {vs : Array Value} {v : Value} (ho : o.op = .extract x i) (hx : ev l0 x = .tuple vs) (hv : vs[i]? = some v) : (execOp (ev l0) o).run P w = .ok (.value v) w := by
  simp [execOp, ho, hx, hv, Instr.extract]
end
section
variable {P : Program} {Q : Exit → Act → World → Prop} {S : World → Prop} {l : List Oper} {l0 : List Value} {ds : List Deferred} {w w2 : World} {n i j : Nat} {bs : List Bool}
/-- two operations, of which one only reads: either may come first -/
theorem heldPair2 {o1 o2 : Oper} {d1 d2 : Nat} {v u : Value} (hr : Region.ready .any l.toArray bs.toArray = [i, j]) (hr1 : Region.ready .any l.toArray (bs.set i true).toArray = [j]) (hr2 : Region.ready .any l.toArray (bs.set j true).toArray = [i])
    (hi : l[i]? = some o1) (hg1 : o1.guard = none) (hd1 : o1.dst = some d1) (hj : l[j]? = some o2) (hg2 : o2.guard = none) (hd2 : o2.dst = some d2) (hne : i ≠ j) (hdn : d1 ≠ d2)
    (r1 : (execOp (ev l0) o1).run P w = .ok (.value v) w) (r2 : (execOp (ev (l0.set d1 v)) o2).run P w = .ok (.value u) w2) (r3 : (execOp (ev l0) o2).run P w = .ok (.value u) w2) (r4 : (execOp (ev (l0.set d2 u)) o1).run P w2 = .ok (.value v) w2) (hS : S w) (hS2 : S w2)
    (h : Held P l Q S n ((bs.set i true).set j true) ((l0.set d1 v).set d2 u) ds w2) : Held P l Q S (n + 1 + 1) bs l0 ds w := by
  refine heldTwo hr ?_ ?_
  · exact hopRun hi hg1 hd1 r1 hS (heldOne hr1 hj hg2 hd2 r2 hS2 h)
  · refine hopRun hj hg2 hd2 r3 hS2 (heldOne hr2 hi hg1 hd1 r4 hS2 ?_)
    rw [List.set_comm _ _ hne, List.set_comm _ _ hdn] at h
    exact h
end
end Lg
namespace Go.Proofs.Ytlddjcilbpcciaa
open Go.ChangeShapes Go.WideShapes Go.ChangeAt Go.RowKit Agg Pg Dv Lg
attribute [local go_sem] Oper.semAt_some

theorem flatLog : Flat Try.prog 2 33 [some .i64, some .u64] := ⟨by kernel_rfl, by kernel_rfl, by kernel_rfl, by kernel_rfl, by decide, by kernel_rfl⟩
theorem log_eql (a b : Int) (c d : Nat) (ha : -9223372036854775808 ≤ a ∧ a ≤ 9223372036854775807) (hb : -9223372036854775808 ≤ b ∧ b ≤ 9223372036854775807) (hc : c < 18446744073709551616) (hd : d < 18446744073709551616) (r : Bool) (hr : decide (a = b ∧ c = d) = r) (w : World) :
    (binOp .eql 33 (.agg #[.int .i64 a, .int .u64 (c : Int)]) (.agg #[.int .i64 b, .int .u64 (d : Int)])).run Try.prog w = .ok (.bool r) w :=
  flatLog.eql (xs := [.int .i64 a, .int .u64 (c : Int)]) (ys := [.int .i64 b, .int .u64 (d : Int)]) ⟨⟨a, rfl, by simp [Lit.wf, IntKind.min, IntKind.max, IntKind.bits, IntKind.signed]; omega⟩, ⟨c, rfl, by simp [Lit.wf, IntKind.min, IntKind.max, IntKind.bits, IntKind.signed]; omega⟩, trivial⟩ ⟨⟨b, rfl, by simp [Lit.wf, IntKind.min, IntKind.max, IntKind.bits, IntKind.signed]; omega⟩, ⟨d, rfl, by simp [Lit.wf, IntKind.min, IntKind.max, IntKind.bits, IntKind.signed]; omega⟩, trivial⟩ r (by rw [← hr, decide_eq_true_eq]; simp; omega) w
theorem devO_off {b k : Nat} {w w' : World} {v : Value} {d : Dev} (h : DevO b w v d) (hg : w.grownBy w' (some k)) (hk : k < b) : DevO b w' v d := by
  obtain ⟨p, c, h1, h2, h3⟩ := h
  exact ⟨p, c, h1, h2.kept hg (own_off h2 hk), h3.kept hg (own_off h3 hk)⟩
set_option maxHeartbeats 4000000 in
set_option maxRecDepth 100000 in
theorem wakes_any (w : World) :
    Calls Try.prog 9 #[] w fun e w' => e = .returned (.bool true) ∧ Below w.heap.size w w' := by
  obtain ⟨D0, hD0⟩ : ∃ D0, newD 24 = D0 := ⟨_, rfl⟩
  obtain ⟨D1, hD1⟩ : ∃ D1, wkD1 = D1 := ⟨_, rfl⟩
  obtain ⟨D2, hD2⟩ : ∃ D2, wkD2 = D2 := ⟨_, rfl⟩
  obtain ⟨B, hBe⟩ : ∃ B, wkG = B := ⟨_, rfl⟩
  have f0 := newD_fresh
  have f1 := wk1
  have f2 := wk2
  have f3 := wk3
  have bl : B.length = 119 := by rw [← hBe, wkG, List.length_replicate]
  rw [hD0] at f0
  rw [hD0, hBe, hD1] at f1
  rw [hD1, hD2] at f2
  rw [hD2, hBe] at f3
  have HBC : Hid (bv B = List.replicate 119 (.int .u8 0)) := Lib.hid (by rw [← hBe, wkG, bv, List.map_replicate]; rfl)
  have HN : Hid (∀ W, Calls Try.prog 31 #[.int .i64 24] W fun e w' => ∃ u, e = .returned (.tuple #[u, .int .i64 0]) ∧ DevO W.heap.size w' u D0 ∧ Below W.heap.size W w') := Lib.hid (fun W => by have := new_R 24 (by decide) (by decide) W; rw [hD0] at this; exact this)
  have HP1 : Hid (∀ W v b, DevR W v D0 → Bytes W b B → Calls Try.prog 19 #[v, .int .i64 0, .int .u64 1, b] W fun e w' => ∃ u, e = .returned (.tuple #[u, .int .i64 0]) ∧ DevO W.heap.size w' u D1 ∧ Below W.heap.size W w') := Lib.hid (fun W v b hv hb => by
    have := lput_any D0 0 1 B v b W f0.good (by rw [f0.cache]; decide) hv hb (by omega) (by decide) (by decide) (by decide)
    rw [f1.1] at this; exact this)
  have HP2 : Hid (∀ W v b, DevR W v D1 → Bytes W b [7] → Calls Try.prog 19 #[v, .int .i64 2, .int .u64 3, b] W fun e w' => ∃ u, e = .returned (.tuple #[u, .int .i64 0]) ∧ DevO W.heap.size w' u D2 ∧ Below W.heap.size W w') := Lib.hid (fun W v b hv hb => by
    have := lput_any D1 2 3 [7] v b W f1.2.good (by rw [f1.2.cache]; decide) hv hb (by decide) (by decide) (by decide) (by decide)
    rw [f2.1] at this; exact this)
  have ha0 : askL D2 = 0 := by unfold askL; rw [f2.2.pow.1, f2.2.pow.2.1]; rfl
  have hra : repA D2 0 = ([B, [7]], 3, 3) := by unfold repA; rw [if_pos ha0, f3]
  have HRP : Hid (∀ W v, DevR W v D2 → Calls Try.prog 13 #[v, .int .u64 0] W fun e w' => ∃ u, e = .returned (.tuple #[u, .agg #[.int .i64 3, .int .u64 3], .int .i64 0]) ∧ GrpO w' W.heap.size u [B, [7]] ∧ Below W.heap.size W w') := Lib.hid (fun W v hv => by
    have := Replay_any D2 0 v W f2.2.good (by rw [f2.2.cache]; decide) hv (by decide)
    rw [hra, ha0] at this; exact this)
  have HND : Hid (∀ W, Calls Try.prog 10 #[.int .i64 119] W fun e w' => e = .returned (.int .i64 2) ∧ Below W.heap.size W w') := Lib.hid (fun W => need_any 119 (by decide) (by decide) W)
  have HBL := Lib.hid bl
  clear hD0 hD1 hD2 hBe f0 f1 f2 f3 ha0 hra bl
  have HB := Lib.hid (Below.refl w.heap.size w)
  go_enter Try.func9, Try.ntmps9
  go_wp2_with fail
  refine (HN.out w).mono ?_
  rintro e w1 ⟨u, rfl, hu, hb⟩
  replace HB := Lib.hid (HB.out.trans (hb.mono HB.out.size))
  clear hb
  have HU := Lib.hid hu.read
  obtain ⟨px, pc, cx, cc, rfl⟩ := DevR.shape HU.out
  clear hu
  go_upto_region 2 with (fail)
  have hgg := HB.out.size
  refine Agg.wp_at fun w2 hw2 => ?_
  have hb : Below w1.heap.size w1 w2 := by rw [hw2.out]; repeat (first | exact Below.refl _ _ | refine Agg.bel_drew ?_ | refine Agg.bel_alloc ?_ _)
  replace HB := Lib.hid (HB.out.trans (hb.mono HB.out.size))
  replace HU := Lib.hid (HU.out.keep hb)
  clear hb
  have H1 : Hid (Blk w2 w1.heap.size 28 [.slice px D0.pages.length pc, .slice cx D0.cache.length cc, .int .i64 D0.fuse, .bool D0.off]) := by show Blk _ _ _ _; rw [hw2.out]; exact Blk.new w1 28 #[.slice px D0.pages.length pc, .slice cx D0.cache.length cc, .int .i64 D0.fuse, .bool D0.off]
  clear hw2
  generalize w1.heap.size = g1 at *
  refine Agg.heldBegin (S := fun _ => True) 8 (by kernel_rfl) rfl ?_
  have hb0 : Below w2.heap.size w2 w2.drew := bel_drew (Below.refl _ _)
  replace HU := Lib.hid (HU.out.keep hb0)
  replace H1 := Lib.hid (H1.out.keep hb0)
  replace HB := Lib.hid (HB.out.trans (hb0.mono HB.out.size))
  clear hb0
  generalize w2.drew = z0 at *
  simp only [List.replicate_succ, List.replicate_zero]
  have hbA : Below z0.heap.size z0 (z0.alloc (.cells (madeCells (Value.cells (.int .u8 0)) (119 * 1)) 5)) := (Below.refl _ _).alloc (Nat.le_refl _) _
  have hU1 := HU.out.keep hbA
  have h11 := H1.out.keep hbA
  have hB1 := HB.out.trans (hbA.mono HB.out.size)
  have hC := made_blk z0 119 _ rfl
  have h1 := H1.out
  generalize hz1 : z0.alloc (.cells (madeCells (Value.cells (.int .u8 0)) (119 * 1)) 5) = z1 at *
  refine heldPair2 (i := 0) (j := 1) (w2 := z1) (v := .agg #[.slice px D0.pages.length pc, .slice cx D0.cache.length cc, .int .i64 D0.fuse, .bool D0.off]) (u := .slice (some ⟨z0.heap.size, 0, none⟩) 119 119) (by decide +kernel) (by decide +kernel) (by decide +kernel) rfl rfl rfl rfl rfl rfl (by decide) (by decide)
    (Agg.run_rowB 0 4 _ h1 rfl rfl (by decide +kernel) rfl rfl) (hz1 ▸ run_mk ti25 rfl 119 119 rfl rfl rfl rfl (Nat.le_refl _) (by decide) (by decide)) (hz1 ▸ run_mk ti25 rfl 119 119 rfl rfl rfl rfl (Nat.le_refl _) (by decide) (by decide)) (Agg.run_rowB 0 4 _ h11 rfl rfl (by decide +kernel) rfl rfl) trivial trivial ?_
  simp only [List.set_cons_succ, List.set_cons_zero]
  have HBY : Hid (Bytes z1 (.slice (some ⟨z0.heap.size, 0, none⟩) 119 119) B) := by
    refine Lib.hid ?_
    have hC1 := hC
    have h := SlR.ofBlk hC1 0 119 119 (bv B) (by rw [HBC.out]; rfl) (by rw [bv_length, HBL.out]) (Nat.le_refl _) (by decide)
    show SlR _ _ 1 B.length (bv B)
    rw [HBL.out]; exact h
  have HD1 := Lib.hid hU1
  clear HU H1 HB hC hbA h1 hz1
  refine Agg.heldCall Try.func19 rfl rfl (i := 2) (args := [.tmp 13, .const (.int .i64 0), .const (.int .u64 1), .tmp 14]) (by decide +kernel) rfl rfl rfl rfl ((HP1.out z1 _ _ HD1.out HBY.out).mono ?_)
  rintro e z2 ⟨u, rfl, hu, hb2⟩
  have hr2 := hu.read
  obtain ⟨px2, pc2, cx2, cc2, rfl⟩ := DevR.shape hr2
  have h12 := h11.keep hb2
  have hB2 := hB1.trans (hb2.mono hB1.size)
  refine ⟨_, rfl, trivial, ?_⟩
  simp only [List.set_cons_succ, List.set_cons_zero]
  refine Agg.heldOne (i := 3) (by decide +kernel) rfl rfl rfl (v := .tuple #[.agg #[.slice px2 D1.pages.length pc2, .slice cx2 D1.cache.length cc2, .int .i64 D1.fuse, .bool D1.off], .int .i64 0]) (w' := z2) (Agg.run_move rfl rfl) trivial ?_
  simp only [List.set_cons_succ, List.set_cons_zero]
  refine Agg.heldTake (i := 4) (by decide +kernel) rfl rfl rfl (v := .agg #[.slice px2 D1.pages.length pc2, .slice cx2 D1.cache.length cc2, .int .i64 D1.fuse, .bool D1.off]) (fun W hW => run_ex rfl rfl rfl) trivial ?_
  simp only [List.set_cons_succ, List.set_cons_zero]
  refine Agg.heldTake (i := 5) (by decide +kernel) rfl rfl rfl (v := .int .i64 0) (fun W hW => run_ex rfl rfl rfl) trivial ?_
  simp only [List.set_cons_succ, List.set_cons_zero]
  refine Agg.heldSt (i := 6) (.agg #[.slice px2 D1.pages.length pc2, .slice cx2 D1.cache.length cc2, .int .i64 D1.fuse, .bool D1.off]) [.slice px2 D1.pages.length pc2, .slice cx2 D1.cache.length cc2, .int .i64 D1.fuse, .bool D1.off] h12 rfl (by kernel_rfl) (by simp) (by simp [Value.oneCell']) (by decide +kernel) rfl rfl rfl rfl rfl rfl (fun z3 hb3 hg3 => ⟨trivial, ?_⟩)
  refine Agg.heldOne (i := 7) (by decide +kernel) rfl rfl rfl (v := .int .i64 0) (w' := z3) (Agg.run_assign rfl rfl) trivial ?_
  simp only [List.set_cons_succ, List.set_cons_zero]
  refine Agg.heldDone (by decide +kernel) ?_
  simp only [spliced, List.take_zero, List.drop_succ_cons, List.nil_append, List.length_cons, List.length_nil, List.drop_zero, List.cons_append, Nat.zero_add, Nat.reduceAdd, List.append_nil, List.drop_nil] at hb3
  have hl1 := h11.lt
  have HU2 : Hid (DevR z3 (.agg #[.slice px2 D1.pages.length pc2, .slice cx2 D1.cache.length cc2, .int .i64 D1.fuse, .bool D1.off]) D1) := Lib.hid (devO_off hu hg3 hl1).read
  have H12 := Lib.hid hb3
  have HB : Hid (Below w.heap.size w z3) := Lib.hid (hB2.trans (grown_below hg3 hB2.size (fun j hj => by cases hj; exact hgg)))
  clear hu hr2 h11 h12 hB1 hB2 hb2 hb3 hg3 HBY HD1 hU1 hl1 HN HP1
  have h1 := H12.out
  go_wp2_with (refine Agg.gLoadB 4 h1 rfl rfl rfl rfl (by decide +kernel) ?_; simp only [Act.put, List.setIfInBounds_toArray, List.set_cons_succ, List.set_cons_zero])
  clear h1
  refine Agg.calls_at fun w21 hw21 => ?_
  have hb : Below z3.heap.size z3 w21 := by rw [hw21.out]; repeat (first | exact Below.refl _ _ | refine Agg.bel_drew ?_ | refine Agg.bel_alloc ?_ _)
  replace HB := Lib.hid (HB.out.trans (hb.mono HB.out.size))
  replace HU2 := Lib.hid (HU2.out.keep hb)
  replace H12 := Lib.hid (H12.out.keep hb)
  clear hb
  have HA : Hid (Blk w21 z3.heap.size 5 [.int .u8 7]) := by show Blk _ _ _ _; rw [hw21.out]; exact Blk.new z3 5 #[.int .u8 7]
  clear hw21
  have HAI : Hid (Bytes w21 (.slice (some ⟨z3.heap.size, 0, none⟩) 1 1) [7]) := Lib.hid (SlR.ofBlk HA.out 0 1 1 _ rfl rfl (Nat.le_refl _) (by decide))
  generalize z3.heap.size = ga at *
  have hl1 := H12.out.lt
  refine (HP2.out w21 _ _ HU2.out HAI.out).mono ?_
  rintro e w30 ⟨u, rfl, hu, hb⟩
  have h12 := H12.out.keep hb
  have hlW := H12.out.lt
  have hB3 := HB.out.trans (hb.mono HB.out.size)
  obtain ⟨px3, pc3, cx3, cc3, rfl⟩ := DevR.shape hu.read
  clear hb HB HA HAI HP2 H12 HU2 hl1
  go_upto_region 4 with (refine Agg.gStoreB 4 [.slice px3 D2.pages.length pc3, .slice cx3 D2.cache.length cc3, .int .i64 D2.fuse, .bool D2.off] h12 rfl rfl rfl rfl rfl (by decide +kernel) rfl rfl (by simp [Value.oneCell']) (fun w31 hb31 hg31 => ?_))
  have HU3 : Hid (DevR w31 (.agg #[.slice px3 D2.pages.length pc3, .slice cx3 D2.cache.length cc3, .int .i64 D2.fuse, .bool D2.off]) D2) := Lib.hid (devO_off hu hg31 hlW).read
  have H13 := Lib.hid hb31
  have HB : Hid (Below w.heap.size w w31) := Lib.hid (hB3.trans (grown_below hg31 hB3.size (fun j hj => by cases hj; exact hgg)))
  clear hu h12 hB3 hb31 hg31 hlW
  have h1 := H13.out
  go_wp2_with (refine Agg.gLoadB 4 h1 rfl rfl rfl rfl (by decide +kernel) ?_; simp only [Act.put, List.setIfInBounds_toArray, List.set_cons_succ, List.set_cons_zero])
  clear h1
  refine (HRP.out w31 _ HU3.out).mono ?_
  rintro e w41 ⟨u, rfl, hu, hb⟩
  replace HB := Lib.hid (HB.out.trans (hb.mono HB.out.size))
  replace HU3 := Lib.hid (HU3.out.keep hb)
  replace H13 := Lib.hid (H13.out.keep hb)
  clear hb
  have HG := Lib.hid hu
  obtain ⟨vs, hv1, hv2, hv3⟩ := hu
  obtain ⟨lx, lc, rfl, _, _⟩ := (ownSl hv1).shape
  clear HU3 H13 HRP
  obtain ⟨v0, v1, rfl⟩ : ∃ a b, vs = [a, b] := by
    match vs, hv2 with
    | [a, b], _ => exact ⟨a, b, rfl⟩
  have h00 := hv3 0 v0 B rfl rfl
  have h01 := hv3 1 v1 [7] rfl rfl
  obtain ⟨x0, c0, rfl, _, _⟩ := (ownSl h00).shape
  obtain ⟨x1, c1, rfl, _, _⟩ := (ownSl h01).shape
  have HV := Lib.hid (ownSl hv1)
  have HY1 : Hid (Bytes w41 (.slice x1 1 c1) [7]) := Lib.hid (ownSl h01)
  clear hv1 hv2 hv3 h00 h01 HG
  rw [HBL.out] at HV
  go_upto_region 5 with (first
    | (refine Agg.allocRow 33 #[.int .i64 0, .int .u64 0] rfl rfl (by kernel_rfl) ?_; simp only [Act.put, List.setIfInBounds_toArray, List.set_cons_succ, List.set_cons_zero])
    | (refine Agg.gStoreNew 2 [.int .i64 3, .int .u64 3] rfl rfl rfl rfl rfl rfl (by decide +kernel) rfl rfl (by simp [Value.oneCell']) ?_; simp only [Act.put]))
  refine Agg.wp_at fun w42 hw42 => ?_
  have hb : Below w41.heap.size w41 w42 := by rw [hw42.out]; repeat (first | exact Below.refl _ _ | refine Agg.bel_drew ?_ | refine Agg.bel_alloc ?_ _)
  replace HB := Lib.hid (HB.out.trans (hb.mono HB.out.size))
  replace HV := Lib.hid (HV.out.keep hb)
  replace HY1 := Lib.hid (HY1.out.keep hb)
  clear hb
  have H6 : Hid (Blk w42 w41.heap.size 33 [.int .i64 3, .int .u64 3]) := by show Blk _ _ _ _; rw [hw42.out]; exact Blk.new w41 33 #[.int .i64 3, .int .u64 3]
  clear hw42
  generalize w41.heap.size = g6 at *
  obtain ⟨lb, lo, lc', hve, _, _, hcm, _⟩ := SlR.pos HV.out (by decide) (by simp)
  injection hve with e1 e2 e3
  subst e1
  subst e3
  clear e2
  have hc0 : w42.cell? ⟨lb, lo + 0, none⟩ = some (.slice x0 119 c0) := hcm 0 _ rfl
  have hc1 : w42.cell? ⟨lb, lo + 1, none⟩ = some (.slice x1 1 c1) := hcm 1 _ rfl
  clear hcm
  refine Agg.listR 42 (by kernel_rfl) ?_
  simp only [List.take_succ_cons, List.take_zero, List.drop_succ_cons, List.drop_zero]
  refine Agg.chMove rfl rfl rfl rfl ?_
  refine Agg.chEq true (by decide) rfl rfl rfl rfl rfl ?_
  refine Agg.chMove rfl rfl rfl rfl ?_
  refine Agg.chMove rfl rfl rfl rfl ?_
  refine Agg.chEq true (by decide) rfl rfl rfl rfl rfl ?_
  refine Agg.chPick rfl rfl rfl rfl rfl ?_
  refine Agg.chMove rfl rfl rfl rfl ?_
  refine Agg.chMove rfl rfl rfl rfl ?_
  refine Agg.chEq true (by decide) rfl rfl rfl rfl rfl ?_
  refine Agg.chPick rfl rfl rfl rfl rfl ?_
  refine Agg.chMove rfl rfl rfl rfl ?_
  refine Agg.chMove rfl rfl rfl rfl ?_
  refine Agg.chEq true (by decide) rfl rfl rfl rfl rfl ?_
  refine Agg.chPick rfl rfl rfl rfl rfl ?_
  refine Agg.chMove rfl rfl rfl rfl ?_
  refine Agg.chRowB 2 H6.out rfl (by decide +kernel) rfl rfl rfl rfl ?_
  refine Agg.chBuild (v := .agg #[.int .i64 3, .int .u64 3]) rfl rfl rfl rfl (fun W => by simp [go_sem]) ?_
  refine Agg.chBin (v := .bool true) rfl rfl rfl rfl rfl (fun w => flatLog.gd .eql _ _ _ _ w) (fun w => log_eql 3 3 3 3 (by decide) (by decide) (by decide) (by decide) true (by decide) w) ?_
  refine Agg.chPick rfl rfl rfl rfl rfl ?_
  refine Agg.chMove rfl rfl rfl rfl ?_
  refine Agg.chMove rfl rfl rfl rfl ?_
  refine Agg.chLen Try.underlying31 rfl rfl rfl rfl ?_
  refine Agg.chEq true (by decide) rfl rfl rfl rfl rfl ?_
  refine Agg.chPick rfl rfl rfl rfl rfl ?_
  refine Agg.chMove rfl rfl rfl rfl ?_
  refine Agg.chMove rfl rfl rfl rfl ?_
  refine Agg.chIA tiGG (by omega) (by omega) rfl rfl rfl rfl rfl ?_
  refine Agg.chLoad rfl rfl rfl rfl (by decide +kernel) hc0 ?_
  refine Agg.chLen Try.underlying37 rfl rfl rfl rfl ?_
  refine Agg.chEq true (by decide) rfl rfl rfl rfl rfl ?_
  refine Agg.chPick rfl rfl rfl rfl rfl ?_
  refine Agg.chMove rfl rfl rfl rfl ?_
  refine Agg.chMove rfl rfl rfl rfl ?_
  refine Agg.chIA tiGG (by omega) (by omega) rfl rfl rfl rfl rfl ?_
  refine Agg.chLoad rfl rfl rfl rfl (by decide +kernel) hc1 ?_
  refine Agg.chBuildSlice (e := 5) #[.int .u8 7] rfl rfl rfl rfl (fun _ => by kernel_rfl) ?_
  refine Agg.chCall2 Try.func18 rfl (by kernel_rfl) (.bool true) 35 rfl rfl rfl rfl rfl rfl rfl (fun u W hb hu => bEqual_any [7] [7] _ u W (SlR.keep HY1.out hb) (NewSl.sl (sz := 1) hu rfl (by decide)) true (by decide)) ?_
  refine Agg.chPick rfl rfl rfl rfl rfl ?_
  refine Agg.chMove rfl rfl rfl rfl ?_
  refine Agg.chCall Try.func10 rfl (by kernel_rfl) rfl rfl rfl rfl (fun W hb => HND.out W) ?_
  refine Agg.chEq true (by decide) rfl rfl rfl rfl rfl ?_
  refine Agg.chPick rfl rfl rfl rfl rfl ?_
  refine Agg.chEnd ?_
  intro vs w43 hb _
  simp only [List.reverse, List.reverseAux, Agg.fill, List.set_cons_succ, List.set_cons_zero]
  replace HB := Lib.hid (HB.out.trans (hb.mono HB.out.size))
  replace HV := Lib.hid (HV.out.keep hb)
  replace HY1 := Lib.hid (HY1.out.keep hb)
  replace H6 := Lib.hid (H6.out.keep hb)
  clear hb
  go_wp2_with fail
  go_ret
  exact ⟨rfl, HB.out⟩
end Go.Proofs.Ytlddjcilbpcciaa
end
section
/-
  DEVICES: what arguments of the statements hold.
-/
namespace Go.Proofs.Ytlddjcilbpcciaa
open Go.ChangeShapes Go.WideShapes Go.ChangeAt Go.RowKit Agg Pg Dv

def FlOk (f : Fl) : Prop := f.Ok ∧ (Lit.int .i64 f.page).wf = true
theorem u64_nat {z : Int} (h : (Lit.int .u64 z).wf = true) : ∃ n : Nat, z = n ∧ n < 18446744073709551616 := by
  simp [Lit.wf, IntKind.min, IntKind.max, IntKind.signed, IntKind.bits] at h
  exact ⟨z.toNat, by omega, by omega⟩
theorem u8_byte {z : Int} (h : (Lit.int .u8 z).wf = true) : ∃ b : UInt8, z = b.toNat := by
  simp [Lit.wf, IntKind.min, IntKind.max, IntKind.signed, IntKind.bits] at h
  exact ⟨UInt8.ofNat z.toNat, by rw [UInt8.toNat_ofNat']; omega⟩
theorem good_int {w : World} {fuel : Nat} {v : Value} (h : Agg.Good Try.prog w fuel 3 [v]) : ∃ z : Int, v = .int .i64 z ∧ (Lit.int .i64 z).wf = true := by
  have hf := good_fits fuel 1 3 [some .i64] [v] (by kernel_rfl) h
  obtain ⟨x, r, he, ⟨z, rfl, hz⟩, _⟩ := Agg.Fits.cons hf
  simp only [List.cons.injEq] at he
  exact ⟨z, he.1, hz⟩
theorem good_bool {w : World} {fuel : Nat} {v : Value} (h : Agg.Good Try.prog w fuel 4 [v]) : ∃ z : Bool, v = .bool z := by
  have hf := good_fits fuel 1 4 [none] [v] (by kernel_rfl) h
  obtain ⟨x, r, he, ⟨z, rfl⟩, _⟩ := Agg.Fits.cons hf
  simp only [List.cons.injEq] at he
  exact ⟨z, he.1⟩
theorem iC_flat : ∀ l : List Int, iC l = l.flatMap (fun z => [Value.int .i64 z])
  | [] => rfl
  | a :: r => by rw [List.flatMap_cons, ← iC_flat r]; rfl
theorem good_ints {w : World} {fuel : Nat} {v : Value} (h : Agg.Good Try.prog w fuel 64 [v]) : ∃ l : List Int, Ints w v l ∧ (∀ z ∈ l, (Lit.int .i64 z).wf = true) ∧ l.length ≤ maxLen := by
  obtain ⟨l, h1, h2, h3⟩ := good_sl (α := Int) Try.underlying64 (sz := 1) (by kernel_rfl) (fun z => [.int .i64 z]) (fun z => (Lit.int .i64 z).wf = true) (fun _ => rfl) (fun fu cs hg => by
    have hf := good_fits fu 1 3 [some .i64] cs (by kernel_rfl) hg
    obtain ⟨x, r, rfl, ⟨z, rfl, hz⟩, hf2⟩ := Agg.Fits.cons hf
    rw [hf2.nil]
    exact ⟨z, rfl, hz⟩) h
  refine ⟨l, ?_, h2, h3⟩
  show SlR _ _ _ _ _
  have e := iC_flat l
  rw [e]; exact h1
/-- a device that is told, in memory -/
def LaidOk (w : World) (x : LaidD) (fv cv : Value) : Prop := Fls w fv x.fills ∧ Fls w cv x.cache ∧ (∀ f ∈ x.fills, FlOk f) ∧ ∀ f ∈ x.cache, FlOk f
theorem LaidOk.keep {w w' : World} {x : LaidD} {fv cv : Value} (h : LaidOk w x fv cv) (hb : Below w.heap.size w w') : LaidOk w' x fv cv := ⟨SlR.keep h.1 hb, SlR.keep h.2.1 hb, h.2.2⟩
/-- an op, in memory -/
def OpOk (w : World) (o : OpD) (mv : Value) : Prop := FlOk o.fl ∧ Ints w mv o.ms ∧ (Lit.int .i64 o.n).wf = true
theorem OpOk.keep {w w' : World} {o : OpD} {mv : Value} (h : OpOk w o mv) (hb : Below w.heap.size w w') : OpOk w' o mv := ⟨h.1, SlR.keep h.2.1 hb, h.2.2⟩
/-- ops in memory -/
def opsC (l : List (OpD × Value)) : List Value := l.flatMap fun x => opC x.1 x.2
def Opss (w : World) (v : Value) (l : List (OpD × Value)) : Prop := SlR w v 9 l.length (opsC l) ∧ ∀ x ∈ l, OpOk w x.1 x.2
theorem Opss.keep {w w' : World} {v : Value} {l : List (OpD × Value)} (h : Opss w v l) (hb : Below w.heap.size w w') : Opss w' v l := ⟨SlR.keep h.1 hb, fun x hx => (h.2 x hx).keep hb⟩
end Go.Proofs.Ytlddjcilbpcciaa
end
