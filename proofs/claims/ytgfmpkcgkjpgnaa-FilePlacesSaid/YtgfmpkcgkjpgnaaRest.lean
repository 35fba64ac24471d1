/-
  FILES: the layer wakes.
-/
import Derived.Test.YtgfmpkcgkjpgnaaFi9
import Derived.Test.YtgfmpkcgkjpgnaaLenO
import Derived.Test.YtgfmpkcgkjpgnaaFiA
import Derived.Test.YtgfmpkcgkjpgnaaCopy
import Derived.Test.YtgfmpkcgkjpgnaaFree
section
namespace Go.Proofs.Ytgfmpkcgkjpgnaa
open Go.ChangeShapes Go.WideShapes Go.ChangeAt Go.RowKit Agg Pg Dv Fi
attribute [local go_sem] Oper.semAt_some

set_option maxHeartbeats 4000000 in
set_option maxRecDepth 100000 in
theorem wakes_any (w : World) :
    Calls Try.prog 9 #[] w fun e w' => e = .returned (.bool true) ∧ Below w.heap.size w w' := by
  obtain ⟨D0, hD0⟩ : ∃ D0, newD 24 = D0 := ⟨_, rfl⟩
  obtain ⟨D1, hD1⟩ : ∃ D1, wkD = D1 := ⟨_, rfl⟩
  obtain ⟨B, hBe⟩ : ∃ B, wkB = B := ⟨_, rfl⟩
  have G0 : DGood D0 := hD0 ▸ newD_good (by decide)
  have G1 : DGood D1 := hD1 ▸ wk_good
  have c0 : D0.cache.length ≤ 10000 := by rw [← hD0]; decide
  have c1 : D1.cache.length ≤ 10000 := by rw [← hD1, wk_cache]; decide
  have e1 := wk_put
  have e2 := wk_get
  have e3 := wk_none
  have bl := wkB_len
  rw [hD0, hBe, hD1] at e1
  rw [hD1, hBe] at e2
  rw [hD1] at e3
  rw [hBe] at bl
  have HBC : Hid (bv B = List.replicate 129 (.int .u8 0) ++ [.int .u8 7]) := Lib.hid (by rw [← hBe, wkB, bv_append, bv, List.map_replicate]; rfl)
  have HN : Hid (∀ W, Calls Try.prog 32 #[.int .i64 24] W fun e w' => ∃ u, e = .returned (.tuple #[u, .int .i64 0]) ∧ DevO W.heap.size w' u D0 ∧ Below W.heap.size W w') := Lib.hid (fun W => by have := new_R 24 (by decide) (by decide) W; rw [hD0] at this; exact this)
  have HP : Hid (∀ W v a b, DevR W v D0 → Ints W a [19, 21] → Bytes W b B → Calls Try.prog 22 #[v, a, .int .i64 3, .int .u64 5, b] W fun e w' => ∃ u, e = .returned (.tuple #[u, .int .i64 0]) ∧ DevR w' u D1 ∧ Below W.heap.size W w') := Lib.hid (fun W v a b hv ha hb => by have := fPut_any D0 [19, 21] 3 5 B v a b W G0 c0 hv ha hb (by decide) (by omega) (by decide); rw [e1] at this; exact this)
  have HG : Hid (∀ W v a, DevR W v D1 → Ints W a [19, 21] → Calls Try.prog 26 #[v, a, .int .i64 3, .int .i64 130] W fun e w' => ∃ u, e = .returned (.tuple #[u, .int .i64 0]) ∧ w'.ownsRow W.heap.size 5 1 u B.length (bv B) ∧ Below W.heap.size W w') := Lib.hid (fun W v a hv ha => by have := Get_any D1 [19, 21] 3 130 v a W G1 c1 hv ha (by decide) (by decide) (by decide); rw [e2] at this; exact this)
  have HG2 : Hid (∀ W v a, DevR W v D1 → Ints W a [19, 21] → Calls Try.prog 26 #[v, a, .int .i64 3, .int .i64 131] W fun e w' => ∃ u, e = .returned (.tuple #[u, .int .i64 300]) ∧ w'.ownsRow W.heap.size 5 1 u 0 (bv []) ∧ Below W.heap.size W w') := Lib.hid (fun W v a hv ha => by have := Get_any D1 [19, 21] 3 131 v a W G1 c1 hv ha (by decide) (by decide) (by decide); rw [e3] at this; exact this)
  have HTK : Hid (∀ W a, Ints W a [18, 20, 23] → Calls Try.prog 12 #[a, .int .i64 24, .int .i64 2] W fun e w' => ∃ u, e = .returned (.tuple #[u, .int .i64 0]) ∧ Ints w' u [19, 21] ∧ Below W.heap.size W w') := Lib.hid (fun W a ha => Take_any [18, 20, 23] a 24 2 W ha [19, 21] 0 wk_take)
  have HFR : Hid (∀ W, Calls Try.prog 11 #[.slice none 0 0, .int .i64 24] W fun e w' => ∃ u, e = .returned u ∧ w'.ownsRow W.heap.size 3 1 u (freeL [] 24).length (nI (freeL [] 24)) ∧ Below W.heap.size W w') := Lib.hid (fun W => Free_any [] (.slice none 0 0) 24 W (SlR.nil W 1))
  have HND : Hid (∀ W, Calls Try.prog 16 #[.int .i64 121] W fun e w' => e = .returned (.int .i64 2) ∧ Below W.heap.size W w') := Lib.hid (fun W => by have := need_any 121 (by decide) (by decide) W; rw [wk_need] at this; exact this)
  have HEQ : Hid (∀ W a b, Bytes W a B → Bytes W b B → Calls Try.prog 25 #[a, b] W fun e w' => e = .returned (.bool true) ∧ Below W.heap.size W w') := Lib.hid (fun W a b ha hb => eqY_any B B a b W ha hb true (by simp))
  have HEI : Hid (∀ W a b, Ints W a [19, 21] → Ints W b [19, 21] → Calls Try.prog 15 #[a, b] W fun e w' => e = .returned (.bool true) ∧ Below W.heap.size W w') := Lib.hid (fun W a b ha hb => eqI_any [19, 21] [19, 21] a b W ha hb true (by simp))
  have HBL := Lib.hid bl
  clear hD0 hD1 hBe c0 c1 e1 e2 e3 G0 G1 bl
  have HB := Lib.hid (Below.refl w.heap.size w)
  go_enter Try.func9, Try.ntmps9
  go_wp2_with fail
  refine (HN.out w).mono ?_
  rintro e w1 ⟨u, rfl, hu, hb⟩
  replace HB := Lib.hid (HB.out.trans (hb.mono HB.out.size))
  clear hb
  have HU := Lib.hid hu.read
  obtain ⟨px, pc, cx, cc, rfl⟩ := DevR.shape HU.out
  clear hu
  have HG1 : Hid (w.heap.size ≤ w1.heap.size) := Lib.hid HB.out.size
  go_upto_region 2 with (fail)
  refine Agg.wp_at fun w2 hw2 => ?_
  have hb : Below w1.heap.size w1 w2 := by rw [hw2.out]; repeat (first | exact Below.refl _ _ | refine Agg.bel_drew ?_ | refine Agg.bel_alloc ?_ _)
  replace HB := Lib.hid (HB.out.trans (hb.mono HB.out.size))
  replace HU := Lib.hid (HU.out.keep hb)
  clear hb
  have H1 : Hid (Blk w2 w1.heap.size 46 [.slice px D0.pages.length pc, .slice cx D0.cache.length cc, .int .i64 D0.fuse, .bool D0.off]) := by show Blk _ _ _ _; rw [hw2.out]; exact Blk.new w1 46 #[.slice px D0.pages.length pc, .slice cx D0.cache.length cc, .int .i64 D0.fuse, .bool D0.off]
  clear hw2
  generalize w1.heap.size = g1 at *
  have h1l := H1.out.lt
  have HUP := HU
  have H1P := H1
  have HBP := HB
  go_upto_region 3 with (first
    | (refine Agg.make ti25 _ _ rfl rfl 130 130 rfl rfl rfl rfl (Nat.le_refl _) (by decide) (by decide) ?_; simp only [Act.put, List.setIfInBounds_toArray, List.set_cons_succ, List.set_cons_zero]))
  obtain ⟨c, hce⟩ : ∃ c, w2.heap.size = c := ⟨_, rfl⟩
  rw [hce]
  refine Agg.wp_at fun w3 hw3 => ?_
  have hb : Below w2.heap.size w2 w3 := by rw [hw3.out]; repeat (first | exact Below.refl _ _ | refine Agg.bel_drew ?_ | refine Agg.bel_alloc ?_ _)
  replace HB := Lib.hid (HB.out.trans (hb.mono HB.out.size))
  replace HU := Lib.hid (HU.out.keep hb)
  replace H1 := Lib.hid (H1.out.keep hb)
  clear hb
  have HC : Hid (Blk w3 c 5 (List.replicate 130 (.int .u8 0))) := by show Blk _ _ _ _; rw [hw3.out]; exact made_blk w2 130 _ hce.symm
  have hbE : Below c w2 w3 := by rw [hw3.out, ← hce]; exact (Below.refl _ _).alloc (Nat.le_refl _) _
  clear hw3
  have hcb := HC.out
  go_upto_region 4 with (first
    | (refine Agg.gStoreCell 129 (.int .u8 7) hcb rfl rfl rfl rfl rfl (by kernel_rfl) rfl (by simp) rfl (fun w14 hb14 hg14 => ?_)))
  have hbF : Below w2.heap.size w2 w14 := by rw [hce]; exact hbE.trans (grown_below hg14 (by have := HC.out.lt; omega) (fun j hj => by cases hj; exact Nat.le_refl _))
  have HY : Hid (Bytes w14 (.slice (some ⟨c, 0, none⟩) 130 130) B) := by
    refine Lib.hid ?_
    have h := SlR.ofBlk hb14 0 130 130 (bv B) (by rw [HBC.out]; rfl) (by rw [bv_length, HBL.out]) (Nat.le_refl _) (by decide)
    show SlR _ _ 1 B.length (bv B)
    rw [HBL.out]; exact h
  clear HU H1 HB HC hbE hcb hb14 hg14 hce
  replace HUP := Lib.hid (HUP.out.keep hbF)
  replace H1P := Lib.hid (H1P.out.keep hbF)
  replace HBP := Lib.hid (HBP.out.trans (hbF.mono HBP.out.size))
  have HU := HUP
  have H1 := H1P
  have HB := HBP
  clear HUP H1P HBP hbF
  have h1 := H1.out
  go_wp2_with (first
    | (refine Agg.gLoadB 4 h1 rfl rfl rfl rfl (by decide +kernel) ?_; simp only [Act.put, List.setIfInBounds_toArray, List.set_cons_succ, List.set_cons_zero]))
  clear h1
  refine Agg.calls_at fun w21 hw21 => ?_
  have hb : Below w14.heap.size w14 w21 := by rw [hw21.out]; repeat (first | exact Below.refl _ _ | refine Agg.bel_drew ?_ | refine Agg.bel_alloc ?_ _)
  replace HB := Lib.hid (HB.out.trans (hb.mono HB.out.size))
  replace HU := Lib.hid (HU.out.keep hb)
  replace H1 := Lib.hid (H1.out.keep hb)
  replace HY := Lib.hid (HY.out.keep hb)
  clear hb
  have HA : Hid (Blk w21 w14.heap.size 3 [.int .i64 19, .int .i64 21]) := by show Blk _ _ _ _; rw [hw21.out]; exact Blk.new w14 3 #[.int .i64 19, .int .i64 21]
  clear hw21
  have HAI : Hid (Ints w21 (.slice (some ⟨w14.heap.size, 0, none⟩) 2 2) [19, 21]) := Lib.hid (SlR.ofBlk HA.out 0 2 2 _ rfl rfl (Nat.le_refl _) (by decide))
  generalize w14.heap.size = ga at *
  refine (HP.out w21 _ _ _ HU.out HAI.out HY.out).mono ?_
  rintro e w22 ⟨u2, rfl, hu2, hb⟩
  replace HB := Lib.hid (HB.out.trans (hb.mono HB.out.size))
  replace HU := Lib.hid (HU.out.keep hb)
  replace H1 := Lib.hid (H1.out.keep hb)
  replace HY := Lib.hid (HY.out.keep hb)
  clear hb
  have HV := Lib.hid hu2
  obtain ⟨px2, pc2, cx2, cc2, rfl⟩ := DevR.shape HV.out
  clear hu2 HU H1 HA HAI
  go_upto_region 5 with (fail)
  refine Agg.wp_at fun w23 hw23 => ?_
  have hb : Below w22.heap.size w22 w23 := by rw [hw23.out]; repeat (first | exact Below.refl _ _ | refine Agg.bel_drew ?_ | refine Agg.bel_alloc ?_ _)
  replace HB := Lib.hid (HB.out.trans (hb.mono HB.out.size))
  replace HY := Lib.hid (HY.out.keep hb)
  replace HV := Lib.hid (HV.out.keep hb)
  clear hb
  have H2 : Hid (Blk w23 w22.heap.size 46 [.slice px2 D1.pages.length pc2, .slice cx2 D1.cache.length cc2, .int .i64 D1.fuse, .bool D1.off]) := by show Blk _ _ _ _; rw [hw23.out]; exact Blk.new w22 46 #[.slice px2 D1.pages.length pc2, .slice cx2 D1.cache.length cc2, .int .i64 D1.fuse, .bool D1.off]
  clear hw23
  generalize w22.heap.size = g2 at *
  have h2 := H2.out
  go_wp2_with (first
    | (refine Agg.gLoadB 4 h2 rfl rfl rfl rfl (by decide +kernel) ?_; simp only [Act.put, List.setIfInBounds_toArray, List.set_cons_succ, List.set_cons_zero]))
  clear h2
  refine Agg.calls_at fun w24 hw24 => ?_
  have hb : Below w23.heap.size w23 w24 := by rw [hw24.out]; repeat (first | exact Below.refl _ _ | refine Agg.bel_drew ?_ | refine Agg.bel_alloc ?_ _)
  replace HB := Lib.hid (HB.out.trans (hb.mono HB.out.size))
  replace HY := Lib.hid (HY.out.keep hb)
  replace HV := Lib.hid (HV.out.keep hb)
  replace H2 := Lib.hid (H2.out.keep hb)
  clear hb
  have HA : Hid (Blk w24 w23.heap.size 3 [.int .i64 19, .int .i64 21]) := by show Blk _ _ _ _; rw [hw24.out]; exact Blk.new w23 3 #[.int .i64 19, .int .i64 21]
  clear hw24
  have HAI : Hid (Ints w24 (.slice (some ⟨w23.heap.size, 0, none⟩) 2 2) [19, 21]) := Lib.hid (SlR.ofBlk HA.out 0 2 2 _ rfl rfl (Nat.le_refl _) (by decide))
  generalize w23.heap.size = gb at *
  refine (HG.out w24 _ _ HV.out HAI.out).mono ?_
  rintro e w25 ⟨u3, rfl, hu3, hb⟩
  replace HB := Lib.hid (HB.out.trans (hb.mono HB.out.size))
  replace HY := Lib.hid (HY.out.keep hb)
  replace HV := Lib.hid (HV.out.keep hb)
  replace H2 := Lib.hid (H2.out.keep hb)
  clear hb
  have HY3 := Lib.hid (ownSl hu3)
  obtain ⟨ux3, uc3, rfl, _, _⟩ := (ownSl hu3).shape
  clear hu3 HA HAI
  have h2 := H2.out
  go_wp2_with (first
    | (refine Agg.gLoadB 4 h2 rfl rfl rfl rfl (by decide +kernel) ?_; simp only [Act.put, List.setIfInBounds_toArray, List.set_cons_succ, List.set_cons_zero]))
  clear h2
  refine Agg.calls_at fun w26 hw26 => ?_
  have hb : Below w25.heap.size w25 w26 := by rw [hw26.out]; repeat (first | exact Below.refl _ _ | refine Agg.bel_drew ?_ | refine Agg.bel_alloc ?_ _)
  replace HB := Lib.hid (HB.out.trans (hb.mono HB.out.size))
  replace HY := Lib.hid (HY.out.keep hb)
  replace HV := Lib.hid (HV.out.keep hb)
  replace H2 := Lib.hid (H2.out.keep hb)
  replace HY3 := Lib.hid (HY3.out.keep hb)
  clear hb
  have HA : Hid (Blk w26 w25.heap.size 3 [.int .i64 19, .int .i64 21]) := by show Blk _ _ _ _; rw [hw26.out]; exact Blk.new w25 3 #[.int .i64 19, .int .i64 21]
  clear hw26
  have HAI : Hid (Ints w26 (.slice (some ⟨w25.heap.size, 0, none⟩) 2 2) [19, 21]) := Lib.hid (SlR.ofBlk HA.out 0 2 2 _ rfl rfl (Nat.le_refl _) (by decide))
  generalize w25.heap.size = gd at *
  refine (HG2.out w26 _ _ HV.out HAI.out).mono ?_
  rintro e w27 ⟨u4, rfl, hu4, hb⟩
  replace HB := Lib.hid (HB.out.trans (hb.mono HB.out.size))
  replace HY := Lib.hid (HY.out.keep hb)
  replace HV := Lib.hid (HV.out.keep hb)
  replace H2 := Lib.hid (H2.out.keep hb)
  replace HY3 := Lib.hid (HY3.out.keep hb)
  clear hb
  obtain ⟨ux4, uc4, rfl, _, _⟩ := (ownSl hu4).shape
  clear hu4 HA HAI HV H2
  go_wp2_with fail
  refine Agg.calls_at fun w28 hw28 => ?_
  have hb : Below w27.heap.size w27 w28 := by rw [hw28.out]; repeat (first | exact Below.refl _ _ | refine Agg.bel_drew ?_ | refine Agg.bel_alloc ?_ _)
  replace HB := Lib.hid (HB.out.trans (hb.mono HB.out.size))
  replace HY := Lib.hid (HY.out.keep hb)
  replace HY3 := Lib.hid (HY3.out.keep hb)
  clear hb
  have HA : Hid (Blk w28 w27.heap.size 3 [.int .i64 18, .int .i64 20, .int .i64 23]) := by show Blk _ _ _ _; rw [hw28.out]; exact Blk.new w27 3 #[.int .i64 18, .int .i64 20, .int .i64 23]
  clear hw28
  have HAI : Hid (Ints w28 (.slice (some ⟨w27.heap.size, 0, none⟩) 3 3) [18, 20, 23]) := Lib.hid (SlR.ofBlk HA.out 0 3 3 _ rfl rfl (Nat.le_refl _) (by decide))
  generalize w27.heap.size = gf at *
  refine (HTK.out w28 _ HAI.out).mono ?_
  rintro e w29 ⟨u5, rfl, hu5, hb⟩
  replace HB := Lib.hid (HB.out.trans (hb.mono HB.out.size))
  replace HY := Lib.hid (HY.out.keep hb)
  replace HY3 := Lib.hid (HY3.out.keep hb)
  clear hb
  have HT5 := Lib.hid hu5
  obtain ⟨ux5, uc5, rfl, _, _⟩ := SlR.shape hu5
  clear hu5 HA HAI
  have hfl := wk_free
  go_upto_region 8 with (fail)
  refine Agg.listR 38 (by kernel_rfl) ?_
  simp only [List.take_succ_cons, List.take_zero, List.drop_succ_cons, List.drop_zero]
  refine Agg.chMove rfl rfl rfl rfl ?_
  refine Agg.chEq true (by decide) rfl rfl rfl rfl rfl ?_
  refine Agg.chMove rfl rfl rfl rfl ?_
  refine Agg.chMove rfl rfl rfl rfl ?_
  refine Agg.chEq true (by decide) rfl rfl rfl rfl rfl ?_
  refine Agg.chPick rfl rfl rfl rfl rfl ?_
  refine Agg.chMove rfl rfl rfl rfl ?_
  refine Agg.chMove rfl rfl rfl rfl ?_
  refine Agg.chEq true (by decide) rfl rfl rfl rfl rfl ?_
  refine Agg.chPick rfl rfl rfl rfl rfl ?_
  refine Agg.chMove rfl rfl rfl rfl ?_
  refine Agg.chMove rfl rfl rfl rfl ?_
  refine Agg.chEq true (by decide) rfl rfl rfl rfl rfl ?_
  refine Agg.chPick rfl rfl rfl rfl rfl ?_
  refine Agg.chMove rfl rfl rfl rfl ?_
  refine Agg.chMove rfl rfl rfl rfl ?_
  refine Agg.chEq true (by decide) rfl rfl rfl rfl rfl ?_
  refine Agg.chPick rfl rfl rfl rfl rfl ?_
  refine Agg.chMove rfl rfl rfl rfl ?_
  refine Agg.chMove rfl rfl rfl rfl ?_
  refine Agg.chMove rfl rfl rfl rfl ?_
  refine Agg.chCall Try.func25 rfl (by kernel_rfl) rfl rfl rfl rfl (fun W hb => HEQ.out W _ _ (SlR.keep HY.out hb) (SlR.keep HY3.out hb)) ?_
  refine Agg.chPick rfl rfl rfl rfl rfl ?_
  refine Agg.chMove rfl rfl rfl rfl ?_
  refine Agg.chMove rfl rfl rfl rfl ?_
  refine Agg.chBuildSlice (e := 3) #[.int .i64 19, .int .i64 21] rfl rfl rfl rfl (fun _ => by kernel_rfl) ?_
  refine Agg.chCall2 Try.func15 rfl (by kernel_rfl) (.bool true) 25 rfl rfl rfl rfl rfl rfl rfl (fun u W hb hu => HEI.out W _ u (SlR.keep HT5.out hb) (NewSl.sl (sz := 1) hu rfl (by decide))) ?_
  refine Agg.chPick rfl rfl rfl rfl rfl ?_
  refine Agg.chMove rfl rfl rfl rfl ?_
  refine Agg.chCallG Try.func11 rfl (by kernel_rfl) (fun v _ => ∃ y c, v = .slice y 6 c) (fun _ _ _ h _ => h) rfl rfl rfl rfl (fun W hb => Calls.mono (HFR.out W) (by rintro e w2 ⟨v, rfl, h, h2⟩; obtain ⟨y, c, rfl, _, _⟩ := (ownSl h).shape; rw [hfl]; exact ⟨_, rfl, ⟨_, _, rfl⟩, h2⟩)) ?_
  refine Agg.chLenO Try.underlying22 6 29 (fun _ _ h => h) rfl rfl rfl rfl rfl rfl ?_
  refine Agg.chEq true (by decide) rfl rfl rfl rfl rfl ?_
  refine Agg.chPick rfl rfl rfl rfl rfl ?_
  refine Agg.chMove rfl rfl rfl rfl ?_
  refine Agg.chCall Try.func16 rfl (by kernel_rfl) rfl rfl rfl rfl (fun W hb => HND.out W) ?_
  refine Agg.chEq true (by decide) rfl rfl rfl rfl rfl ?_
  refine Agg.chPick rfl rfl rfl rfl rfl ?_
  refine Agg.chAssign rfl rfl rfl rfl ?_
  refine Agg.chEnd ?_
  intro vs w30 hb _
  show Exit.then _ _ Exit.normal _ _
  simp only [List.reverse, List.reverseAux, Agg.fill, List.set_cons_succ, List.set_cons_zero]
  replace HB := Lib.hid (HB.out.trans (hb.mono HB.out.size))
  replace HY := Lib.hid (HY.out.keep hb)
  replace HY3 := Lib.hid (HY3.out.keep hb)
  replace HT5 := Lib.hid (HT5.out.keep hb)
  clear hb
  go_wp2_with fail
  go_ret
  exact ⟨rfl, HB.out⟩
end Go.Proofs.Ytgfmpkcgkjpgnaa
end
section
/-
  WHAT IS LEFT OF A SLICE, whatever its elements, wherever it lies. Over any program.
-/
namespace Agg
open Go Go.RowKit
theorem slR_rest {P : Program} {w : World} {t e : TypeId} {sz bytes : Nat} {z : Value} (T : TI P t e sz bytes z) (hsz : 0 < sz) {x : Option Addr} {n cap : Nat} {cs : List Value} (h : SlR w (.slice x n cap) sz n cs) (k : Nat) (hk : k ≤ n) :
    ∃ y c, (∀ w2, (Instr.sliceAt t (.slice x n cap) (some (.int .i64 (k : Int))) none none).run P w2 = .ok (.slice y (n - k) c) w2) ∧ SlR w (.slice y (n - k) c) sz (n - k) (cs.drop (k * sz)) := by
  obtain ⟨_, _, he, hc1, hcm⟩ := SlR.shape h
  cases he
  obtain ⟨i, hi, hz, hs, hb⟩ := T.info
  have hlen := h.1
  by_cases hn : n = 0
  · subst hn
    have hk0 : k = 0 := by omega
    subst hk0
    have hcs : cs = [] := List.eq_nil_of_length_eq_zero (by rw [hlen]; simp)
    subst hcs
    refine ⟨x, cap, fun w2 => ?_, by simpa using h⟩
    cases x with
    | none => simp [Instr.sliceAt, Instr.slice, Instr.sliceBounds, Instr.sliceBound, run_underlying T.ht, asIntOf, Go.sizeOf, typeInfo, hi]
    | some a =>
      by_cases hc : cap = 0
      · subst hc; simp [Instr.sliceAt, Instr.slice, Instr.sliceBounds, Instr.sliceBound, run_underlying T.ht, asIntOf, Go.sizeOf, typeInfo, hi]
      · simp [Instr.sliceAt, Instr.slice, Instr.sliceBounds, Instr.sliceBound, run_underlying T.ht, asIntOf, Go.sizeOf, typeInfo, hi, hc, Addr.add]
  · obtain ⟨b, o, cap', hve, _, _, hcp, _⟩ := SlR.pos h hsz (by omega)
    simp only [Value.slice.injEq, true_and] at hve
    obtain ⟨rfl, rfl⟩ := hve
    have hdl : (cs.drop (k * sz)).length = (n - k) * sz := by rw [List.length_drop, hlen, Nat.sub_mul]
    by_cases hc : k < cap
    · refine ⟨_, _, fun w2 => run_slice_from T b o n cap k hk hc w2, hdl, .inr ⟨_, cap - k, rfl, by omega, by omega, fun j u hj => ?_⟩⟩
      rw [List.getElem?_drop] at hj
      have h2 := hcp _ _ hj
      rw [add_none, ← h2]
      congr 2; omega
    · have hkc : k = cap := by omega
      have hrc : n = k := by omega
      subst hkc
      subst hrc
      refine ⟨some ⟨b, o, none⟩, 0, fun w2 => ?_, hdl, .inr ⟨_, 0, by rw [Nat.sub_self], by omega, Nat.zero_le _, fun j u hj => ?_⟩⟩
      · simp [Instr.sliceAt, Instr.slice, Instr.sliceBounds, Instr.sliceBound, run_underlying T.ht, asIntOf, Go.sizeOf, typeInfo, hi]
      · have := (List.getElem?_eq_some_iff.1 hj).1
        rw [hdl] at this; simp at this
/-- .. and its head -/
theorem slR_head {w : World} {sz : Nat} {x : Option Addr} {n cap : Nat} {cs : List Value} (h : SlR w (.slice x n cap) sz n cs) (k : Nat) (hk : k ≤ n) : SlR w (.slice x k cap) sz k (cs.take (k * sz)) := by
  obtain ⟨hl, h2⟩ := h
  have hlen : (cs.take (k * sz)).length = k * sz := by rw [List.length_take, hl]; exact Nat.min_eq_left (Nat.mul_le_mul_right _ hk)
  refine ⟨hlen, ?_⟩
  rcases h2 with ⟨h3, h4⟩ | ⟨p, cap', hv, h3, h4, h5⟩
  · subst h4
    obtain rfl : k = 0 := by omega
    exact .inl ⟨h3, rfl⟩
  · simp only [Value.slice.injEq] at hv
    obtain ⟨rfl, _, rfl⟩ := hv
    refine .inr ⟨p, cap, rfl, by omega, h4, fun j u hj => h5 j u ?_⟩
    have hj2 := (List.getElem?_eq_some_iff.1 hj).1
    rw [hlen] at hj2
    rwa [List.getElem?_take, if_pos hj2] at hj
theorem gSliceFrom {P : Program} {w : World} {o : Oper} {Q : Exit → Act → World → Prop} {ops : Array Oper} {rest : List Oper} {a : Act} {t : TypeId} {x y : Operand} {u v : Value} (r : Value) (hg : o.guard = none) (ho : o.op = .slice t x (some y) none none) (hx : a.eval x = u) (hy : a.eval y = v) (hr : ∀ w2, (Instr.sliceAt t u (some v) none none).run P w2 = .ok r w2)
    (h : wpList P ops Q rest (a.put o.dst r) w) : wpList P ops Q (o :: rest) a w := by
  refine Agg.run hg r w ?_ h
  simp only [execOp, ho, Option.map_some, Option.map_none, hx, hy, hr, Sem.run_bind, Result.andThen_ok, Sem.run_pure]
theorem gSliceUp {P : Program} {w : World} {o : Oper} {Q : Exit → Act → World → Prop} {ops : Array Oper} {rest : List Oper} {a : Act} {t : TypeId} {x y : Operand} {u v : Value} (r : Value) (hg : o.guard = none) (ho : o.op = .slice t x none (some y) none) (hx : a.eval x = u) (hy : a.eval y = v) (hr : ∀ w2, (Instr.sliceAt t u none (some v) none).run P w2 = .ok r w2)
    (h : wpList P ops Q rest (a.put o.dst r) w) : wpList P ops Q (o :: rest) a w := by
  refine Agg.run hg r w ?_ h
  simp only [execOp, ho, Option.map_some, Option.map_none, hx, hy, hr, Sem.run_bind, Result.andThen_ok, Sem.run_pure]
/-- a literal of one row -/
theorem gLit1 {P : Program} {w : World} {o : Oper} {Q : Exit → Act → World → Prop} {ops : Array Oper} {rest : List Oper} {a : Act} {t e : TypeId} {x : Operand} (cs : List Value) (hg : o.guard = none) (ho : o.op = .buildSlice t 1 #[(0, x)]) (hx : a.eval x = .agg cs.toArray)
    (hr : ∀ w2, (Instr.buildSlice t 1 #[(0, .agg cs.toArray)]).run P w2 = .ok (.slice (some ⟨w2.heap.size, 0, none⟩) 1 1) (w2.alloc (.cells cs.toArray e)))
    (h : wpList P ops Q rest (a.put o.dst (.slice (some ⟨w.heap.size, 0, none⟩) 1 1)) (w.alloc (.cells cs.toArray e))) : wpList P ops Q (o :: rest) a w := by
  refine run hg _ _ ?_ h
  simp [execOp, ho, hx, hr]
end Agg
end
