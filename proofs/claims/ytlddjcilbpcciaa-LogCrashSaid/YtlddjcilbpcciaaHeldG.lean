/-
  THE WALK OF LAYER 19's STATEMENT LogBack.
-/
import Derived.Test.YtlddjcilbpcciaaLh1
import Derived.Test.YtlddjcilbpcciaaLhQ
import Derived.Test.YtlddjcilbpcciaaLgX
import Derived.Test.YtlddjcilbpcciaaLgZ
import Derived.Test.YtlddjcilbpcciaaLiL
import Derived.Test.YtlddjcilbpcciaaCopy
section
namespace Go.Proofs.Ytlddjcilbpcciaa
open Go.ChangeShapes Go.WideShapes Go.ChangeAt Go.RowKit Agg Pg Dv Lg
attribute [local go_sem] Oper.semAt_some

/-- all that lay there in a world lies there -/
def Bw (w0 w : World) : Prop := Below w0.heap.size w0 w
theorem Bw.keep {w0 w w' : World} (h : Bw w0 w) (hb : Below w.heap.size w w') : Bw w0 w' := Below.trans h (hb.mono (Below.size h))
theorem Bw.grown {w0 w w' : World} {k : Nat} (h : Bw w0 w) (hg : w.grownBy w' (some k)) (hk : w0.heap.size ≤ k) : Bw w0 w' := Below.trans h (grown_below hg (Below.size h) (fun j hj => by cases hj; exact hk))
theorem DevX.far {w0 w w' : World} {b g : Nat} {T : TypeId} {cs : List Value} {d : Dev} {v : Value} (h : DevX w0 b d v w) (H : Blk w g T cs) (h1 : 54 ≠ T) (h2 : 78 ≠ T) (hg : w.grownBy w' (some g)) : DevX w0 b d v w' := by
  refine h.imp id ?_
  rintro ⟨p, c, hv, hp, hc⟩
  exact ⟨p, c, hv, hp.kept hg (own_apart hp H h1), hc.kept hg (own_apart hc H h2)⟩
theorem OutI.far {w0 w w' : World} {b g : Nat} {T : TypeId} {cs : List Value} {u : Value} {gs : List (List UInt8)} (h : OutI w0 w b u gs) (H : Blk w g T cs) (h1 : 37 ≠ T) (hg : w.grownBy w' (some g)) : OutI w0 w' b u gs := by
  obtain ⟨vs, h2, h3, h4⟩ := h
  exact ⟨vs, h2.kept hg (own_apart h2 H h1), h3, h4⟩
theorem OutI.shape {w0 w : World} {b : Nat} {u : Value} {gs : List (List UInt8)} (h : OutI w0 w b u gs) : ∃ x c, u = .slice x gs.length c := by
  obtain ⟨vs, h2, h3, h4⟩ := h
  obtain ⟨x, c, rfl, _, _⟩ := (ownSl h2).shape
  exact ⟨x, c, rfl⟩
theorem DevX.base {w0 w : World} {b b' : Nat} {d : Dev} {v : Value} (h : DevX w0 b d v w) (hb : b' ≤ b) : DevX w0 b' d v w := h.imp id (fun h => h.base hb)
/-- what filled returns -/
def FilT (w0 : World) (b : Nat) (R : Dev × List (List UInt8) × Nat × Nat) (v : Value) (w : World) : Prop := ∃ u g, v = .tuple #[u, g, .agg #[.int .i64 (R.2.2.1 : Int), .int .u64 (R.2.2.2 : Int)], .bool true] ∧ DevX w0 b R.1 u w ∧ OutI w0 w b g R.2.1
def RowsV (w0 : World) (b : Nat) (l : List (List UInt8)) (v : Value) (w : World) : Prop := OutI w0 w b v l
theorem FilT.stable (w0 : World) (b : Nat) (R : Dev × List (List UInt8) × Nat × Nat) : Stable (FilT w0 b R) := fun _ _ _ ⟨u, g, h1, h2, h3⟩ hb => ⟨u, g, h1, h2.keep hb, h3.keep hb⟩
theorem RowsV.stable (w0 : World) (b : Nat) (l : List (List UInt8)) : Stable (RowsV w0 b l) := fun _ _ _ (h : OutI _ _ _ _ _) hb => h.keep hb
theorem FilT.c0 {w0 : World} {b : Nat} {R : Dev × List (List UInt8) × Nat × Nat} (v : Value) (w : World) (h : FilT w0 b R v w) : ∃ vs u, v = .tuple vs ∧ vs[0]? = some u ∧ DevX w0 b R.1 u w := by
  obtain ⟨u, g, rfl, h1, h2⟩ := h; exact ⟨_, _, rfl, rfl, h1⟩
theorem FilT.c1 {w0 : World} {b : Nat} {R : Dev × List (List UInt8) × Nat × Nat} (v : Value) (w : World) (h : FilT w0 b R v w) : ∃ vs u, v = .tuple vs ∧ vs[1]? = some u ∧ RowsV w0 b R.2.1 u w := by
  obtain ⟨u, g, rfl, h1, h2⟩ := h; exact ⟨_, _, rfl, rfl, h2⟩
theorem FilT.c2 {w0 : World} {b : Nat} {R : Dev × List (List UInt8) × Nat × Nat} (v : Value) (w : World) (h : FilT w0 b R v w) : ∃ vs u, v = .tuple vs ∧ vs[2]? = some u ∧ EqV (.agg #[.int .i64 (R.2.2.1 : Int), .int .u64 (R.2.2.2 : Int)]) u w := by
  obtain ⟨u, g, rfl, h1, h2⟩ := h; exact ⟨_, _, rfl, rfl, rfl⟩
theorem FilT.c3 {w0 : World} {b : Nat} {R : Dev × List (List UInt8) × Nat × Nat} (v : Value) (w : World) (h : FilT w0 b R v w) : ∃ vs u, v = .tuple vs ∧ vs[3]? = some u ∧ EqV (.bool true) u w := by
  obtain ⟨u, g, rfl, h1, h2⟩ := h; exact ⟨_, _, rfl, rfl, rfl⟩
theorem rows2_take {w : World} {x : Option Addr} {c : Nat} {l : List (List UInt8)} (h : Rows2 w (.slice x l.length c) l) (k : Nat) (hk : k ≤ l.length) : Rows2 w (.slice x k c) (l.take k) := by
  obtain ⟨vs, h1, h2⟩ := h
  have h3 := SlR.take h1 k hk
  rw [Nat.mul_one] at h3
  refine ⟨vs.take k, ?_, fun i g hg => ?_⟩
  · rw [show (l.take k).length = k by rw [List.length_take]; omega]; exact h3
  · have hi : i < k := by
      have := (List.getElem?_eq_some_iff.1 hg).1
      rw [List.length_take] at this; omega
    rw [List.getElem?_take_of_lt hi] at hg
    obtain ⟨u, h4, h5⟩ := h2 i g hg
    exact ⟨u, by rw [List.getElem?_take_of_lt hi]; exact h4, h5⟩
set_option maxHeartbeats 2000000 in
set_option maxRecDepth 100000 in
theorem back_walk (old : List (List Sec)) (gs : List (List UInt8)) (ov gv : Value) (w : World) (ho : ∀ b ∈ old, BOk b) (hol : old.length ≤ maxLen) (hv : Blks w ov old) (hgv : Rows2 w gv gs) :
    Calls Try.prog 7 #[ov, gv] w fun e w' => e = .returned (.bool true) ∧ Below w.heap.size w w' := by
  obtain ⟨ox, oc, rfl, hoc, hom⟩ := SlR.shape hv
  obtain ⟨gx, gc, rfl, hgc, hgm⟩ := rows2_shape hgv
  unfold maxLen at hgm
  obtain ⟨hF, hS⟩ := blank_facts ho
  have HBL := Lib.hid (fun W v h => blank_any old v W ho hol h)
  obtain ⟨d, hd⟩ : ∃ d, blankD old = d := ⟨_, rfl⟩
  rw [hd] at hF hS HBL
  obtain ⟨A, hA⟩ : ∃ A, grB d.pages = A := ⟨_, rfl⟩
  have hA2 : A ≤ 1152921504606846976 := by rw [← hA]; exact grB_le.2 hS
  have hSA : SecLe A d.pages := grB_le.1 (by omega)
  have HGR := Lib.hid (fun W v h => great_any d.pages hF.good.pages v W h)
  rw [hA] at HGR
  obtain ⟨hR1, hR2⟩ := fil_back (gs.take 20) hF hSA hA2
  have HFI := Lib.hid (fun W0 W v g h0 h1 h2 => filled_any d 0 A A (gs.take 20) v g W0 W h0 hF h1 h2 (by omega) hA (by rw [Nat.max_self]; omega))
  rw [Nat.max_self] at HFI
  obtain ⟨R, hR⟩ : ∃ R, filP (gs.take 20) d 0 A (A + 1) = R := ⟨_, rfl⟩
  rw [hR] at hR1 hR2 HFI
  have hb1 := hR1.le.2
  have hb2 := hR1.bound
  have HRP := Lib.hid (fun W v g h1 h2 => replays_any R.1 A R.2.1 R.2.2.1 R.2.2.2 v g W hR1.fresh.good (by rw [hR1.fresh.cache]; decide) h1 (by omega) h2 (by omega) (by omega) true (by
    rw [decide_eq_true_eq]; exact ⟨fresh_ask hR1.fresh, hR2⟩))
  have HOV := Lib.hid hv
  have HGV := Lib.hid hgv
  clear hd hA hF hS hSA hR hR1 hR2 ho hv hgv hb2
  obtain ⟨n, hn⟩ : ∃ n, min gs.length 20 = n := ⟨_, rfl⟩
  have HMI : Hid (min (gs.length : Int) 20 = (n : Int)) := Lib.hid (by omega)
  have hng : n ≤ gs.length := by omega
  have HTK : Hid (gs.take 20 = gs.take n) := Lib.hid (by rw [← hn, Nat.min_comm, ← List.take_take, List.take_length])
  have HB := Lib.hid (Below.refl w.heap.size w)
  go_enter Try.func7, Try.ntmps7
  go_wp2_with fail
  refine (wakes_any w).mono ?_
  rintro e w1 ⟨rfl, hb⟩
  replace HB := Lib.hid (HB.out.trans (hb.mono HB.out.size))
  replace HOV := Lib.hid (HOV.out.keep hb)
  replace HGV := Lib.hid (HGV.out.keep hb)
  clear hb
  go_wp2_with fail
  refine (HBL.out w1 _ HOV.out).mono ?_
  rintro e w2 ⟨v, rfl, hv, hb⟩
  replace HB := Lib.hid (HB.out.trans (hb.mono HB.out.size))
  replace HOV := Lib.hid (HOV.out.keep hb)
  replace HGV := Lib.hid (HGV.out.keep hb)
  clear hb
  have HD := Lib.hid hv
  obtain ⟨px, pc, cx, cc, rfl⟩ := HD.out.shape
  clear hv HBL HOV
  obtain ⟨wB, hwB⟩ : ∃ x, x = w2 := ⟨_, rfl⟩
  have HX : Hid (Bw wB w2) := Lib.hid (by rw [hwB]; exact Below.refl _ _)
  have HD0 : Hid (DevR wB (.agg #[.slice px d.pages.length pc, .slice cx d.cache.length cc, .int .i64 d.fuse, .bool d.off]) d) := by rw [hwB]; exact HD
  have HG0 : Hid (Rows2 wB (.slice gx gs.length gc) gs) := by rw [hwB]; exact HGV
  have HGL : Hid (wB.heap.size = w2.heap.size) := Lib.hid (by rw [hwB])
  clear hwB
  go_upto_region 4 with (first
    | (refine Agg.allocRow 28 #[.slice none 0 0, .slice none 0 0, .int .i64 0, .bool false] rfl rfl (by kernel_rfl) ?_; simp only [Act.put, List.setIfInBounds_toArray, List.set_cons_succ, List.set_cons_zero])
    | (refine Agg.gStoreNew 4 [.slice px d.pages.length pc, .slice cx d.cache.length cc, .int .i64 d.fuse, .bool d.off] rfl rfl rfl rfl rfl rfl (by decide +kernel) rfl rfl (by simp [Value.oneCell']) ?_; simp only [Act.put]))
  have hgg := HB.out.size
  refine Agg.wp_at fun w3 hw3 => ?_
  have hb : Below w2.heap.size w2 w3 := by rw [hw3.out]; repeat (first | exact Below.refl _ _ | refine Agg.bel_drew ?_ | refine Agg.bel_alloc ?_ _)
  replace HB := Lib.hid (HB.out.trans (hb.mono HB.out.size))
  replace HGV := Lib.hid (HGV.out.keep hb)
  replace HD := Lib.hid (HD.out.keep hb)
  replace HX := Lib.hid (HX.out.keep hb)
  clear hb
  have H5 : Hid (Blk w3 w2.heap.size 28 [.slice px d.pages.length pc, .slice cx d.cache.length cc, .int .i64 d.fuse, .bool d.off]) := by show Blk _ _ _ _; rw [hw3.out]; exact Blk.new w2 28 #[.slice px d.pages.length pc, .slice cx d.cache.length cc, .int .i64 d.fuse, .bool d.off]
  clear hw3
  have HG5 : Hid (wB.heap.size ≤ w2.heap.size) := Lib.hid (by rw [HGL.out]; exact Nat.le_refl _)
  clear HGL
  generalize w2.heap.size = g5 at *
  clear HGV
  have c5 := H5.out.cell 0
  simp only [List.getElem?_cons_zero] at c5
  go_wp2_with fail
  clear c5
  refine (HGR.out w3 _ (DevR.pgs HD.out)).mono ?_
  rintro e w4 ⟨rfl, hb⟩
  replace HB := Lib.hid (HB.out.trans (hb.mono HB.out.size))
  replace HD := Lib.hid (HD.out.keep hb)
  replace HX := Lib.hid (HX.out.keep hb)
  replace H5 := Lib.hid (H5.out.keep hb)
  clear hb
  go_upto_region 7 with (fail)
  refine Agg.chainR 15 (by kernel_rfl) (by kernel_rfl) ?_
  simp only [List.take_succ_cons, List.take_zero, List.drop_succ_cons, List.drop_zero]
  refine Agg.chRowB 4 H5.out rfl (by decide +kernel) rfl rfl rfl rfl ?_
  refine Agg.chMove rfl rfl rfl rfl ?_
  refine Agg.chBuild (v := .agg #[.int .i64 0, .int .u64 (A : Int)]) rfl rfl rfl rfl (fun W => by simp [go_sem]) ?_
  refine Agg.chMove rfl rfl rfl rfl ?_
  refine Agg.chMove rfl rfl rfl rfl ?_
  refine Agg.chLen Try.underlying31 rfl rfl rfl rfl ?_
  refine Agg.chMin2 (n : Int) HMI.out rfl rfl rfl rfl rfl ?_
  refine Agg.chSlice none (some (.int .i64 (n : Int))) none rfl rfl rfl rfl rfl rfl rfl rfl (fun W => run_slice_upto tiGG gx gs.length gc n (by omega) W) ?_
  refine Agg.chCallG Try.func26 rfl (by kernel_rfl) (FilT wB w4.heap.size R) (FilT.stable _ _ R) rfl rfl rfl rfl (fun W hb => Calls.mono (HFI.out wB W _ _ (HX.out.keep hb) HD0.out (by rw [HTK.out]; exact rows2_take HG0.out n hng)) (by rintro e w2 ⟨v, u, rfl, h1, h2, h3⟩; exact ⟨_, rfl, ⟨v, u, rfl, h1.base hb.size, h2.base hb.size⟩, h3⟩)) ?_
  refine Agg.chMoveO 8 (FilT.stable _ _ R) rfl rfl rfl rfl rfl rfl ?_
  refine Agg.chExtractO 9 (DevX.stable _ _ _) FilT.c0 rfl rfl rfl rfl rfl rfl ?_
  refine Agg.chExtractO 9 (RowsV.stable _ _ _) FilT.c1 rfl rfl rfl rfl rfl rfl ?_
  refine Agg.chExtractO 9 (EqV.stable _) FilT.c2 rfl rfl rfl rfl rfl rfl ?_
  refine Agg.chExtractO 9 (EqV.stable _) FilT.c3 rfl rfl rfl rfl rfl rfl ?_
  refine Agg.chAlloc #[.int .i64 0, .int .u64 0] rfl (by kernel_rfl) rfl rfl ?_
  refine Agg.chEnd ?_
  intro vs w5 hb hf
  simp only [List.reverse, List.reverseAux, Agg.Facts] at hf
  obtain ⟨_, _, h10, h11, hv12, hv13, ⟨g9, hv14, hg9, hb9⟩, _⟩ := hf
  simp only [List.reverse, List.reverseAux, Agg.fill, List.set_cons_succ, List.set_cons_zero, hv12, hv13, hv14]
  obtain ⟨px2, pc2, cx2, cc2, hv10⟩ := DevX.shape h10
  obtain ⟨gx2, gc2, hv11⟩ := OutI.shape h11
  rw [hv10] at h10
  rw [hv11] at h11
  simp only [hv10, hv11]
  have hlt5 := H5.out.lt
  have h5 := H5.out.keep hb
  have hbA := HB.out.trans (hb.mono HB.out.size)
  have hxA := HX.out.keep hb
  have hg5 := HG5.out
  refine Agg.tStore 4 (cs := [.slice px2 R.1.pages.length pc2, .slice cx2 R.1.cache.length cc2, .int .i64 R.1.fuse, .bool R.1.off]) h5 rfl rfl rfl rfl rfl (by decide +kernel) rfl rfl (by simp [Value.oneCell']) (fun w60 hb60 hg60 => ?_)
  refine Agg.tAssign rfl rfl rfl ?_
  simp only [Agg.ev, List.getD_cons_zero, List.getD_cons_succ, List.set_cons_succ, List.set_cons_zero]
  refine Agg.tStore 2 (cs := [.int .i64 (R.2.2.1 : Int), .int .u64 (R.2.2.2 : Int)]) (hb9.far' hg60 (by omega)) rfl rfl rfl rfl rfl (by decide +kernel) rfl rfl (by simp [Value.oneCell']) (fun w61 hb61 hg61 => ?_)
  refine Agg.tAssign rfl rfl rfl ?_
  simp only [Agg.ev, List.getD_cons_zero, List.getD_cons_succ, List.set_cons_succ, List.set_cons_zero]
  refine Agg.wpNil ?_
  have h9 := hb9.far' hg60 (show g9 ≠ g5 by omega)
  have H5 := Lib.hid (hb60.far' hg61 (show g5 ≠ g9 by omega))
  have H9 := Lib.hid hb61
  have hx2 := Bw.grown (hxA.grown hg60 hg5) hg61 (by omega)
  have HB2 := Lib.hid ((hbA.trans (grown_below hg60 hbA.size (fun j hj => by cases hj; omega))).trans (grown_below hg61 (Nat.le_trans hbA.size hg60.size) (fun j hj => by cases hj; omega)))
  have HDR := Lib.hid (DevX.read ((h10.off hg60 hlt5).far h9 (by decide) (by decide) hg61) hx2)
  have HOR := Lib.hid (OutI.rows ((OutI.grown h11 hg60 hlt5).far h9 (by decide) hg61) hx2)
  clear hb hv10 hv11 hv12 hv13 hv14 hb9 hb60 hb61 hg60 hg61 h9 hx2 hxA hbA h5 h10 h11 HX HD0 HG0 HD HB HFI HGR
  have HB := HB2
  go_upto_region 8 with (fail)
  refine Agg.listR 8 (by kernel_rfl) ?_
  simp only [List.take_succ_cons, List.take_zero, List.drop_succ_cons, List.drop_zero]
  refine Agg.chMove rfl rfl rfl rfl ?_
  refine Agg.chMove rfl rfl rfl rfl ?_
  refine Agg.chRowB 4 H5.out rfl (by decide +kernel) rfl rfl rfl rfl ?_
  refine Agg.chMove rfl rfl rfl rfl ?_
  refine Agg.chMove rfl rfl rfl rfl ?_
  refine Agg.chRowB 2 H9.out rfl (by decide +kernel) rfl rfl rfl rfl ?_
  refine Agg.chCall Try.func27 rfl (by kernel_rfl) rfl rfl rfl rfl (fun W hb => HRP.out W _ _ (HDR.out.keep hb) (HOR.out.keep hb)) ?_
  refine Agg.chPick rfl rfl rfl rfl rfl ?_
  refine Agg.chEnd ?_
  intro vs w71 hb _
  simp only [List.reverse, List.reverseAux, Agg.fill, List.set_cons_succ, List.set_cons_zero]
  replace HB := Lib.hid (HB.out.trans (hb.mono HB.out.size))
  replace H5 := Lib.hid (H5.out.keep hb)
  replace H9 := Lib.hid (H9.out.keep hb)
  replace HDR := Lib.hid (HDR.out.keep hb)
  replace HOR := Lib.hid (HOR.out.keep hb)
  clear hb
  go_wp2_with fail
  go_ret
  exact ⟨rfl, HB.out⟩
theorem LogBack_walk (v0 : Value) (f0 : Nat) (v1 : Value) (gs : List (List UInt8)) (w : World) (g0 : Agg.Good Try.prog w f0 25 [v0]) (y1 : Rows2 w v1 gs) (_m1 : ∀ l ∈ gs, l.length ≤ maxLen) :
    Calls Try.prog 7 #[v0, v1] w fun e w' => e = .returned (.bool true) ∧ Below w.heap.size w w' := by
  obtain ⟨old, h1, h2, h3⟩ := good_blks g0
  exact back_walk old gs v0 v1 w h2 h3 h1 y1
end Go.Proofs.Ytlddjcilbpcciaa
end
section
/-
  THE LOG: what LogCrash uses: Clone of groups, groups in a row, masks.
-/
namespace Go.Proofs.Ytlddjcilbpcciaa
open Go.ChangeShapes Go.WideShapes Go.ChangeAt Go.RowKit Agg Pg Dv Lg
attribute [local go_sem] Oper.semAt_some

theorem and_15 (m : Int) : bits .and .i64 m 15 = m % 16 := by
  show IntKind.i64.wrap ((BitVec.ofInt 64 m &&& BitVec.ofInt 64 15).toNat : Int) = _
  have h1 : (BitVec.ofInt 64 15).toNat = 2 ^ 4 - 1 := by decide
  rw [BitVec.toNat_and, BitVec.toNat_ofInt, h1, Nat.and_two_pow_sub_one_eq_mod, IntKind.wrap_i64]
  omega
/-- groups in a row: their bytes lay there before, or are their own -/
def OutK (w0 : World) (b : Nat) (w : World) (u : Value) (gs : List (List UInt8)) : Prop := ∃ vs : List Value, w.ownsRow b 37 1 u gs.length vs ∧ vs.length = gs.length ∧ ∀ (i : Nat) (v : Value) (g : List UInt8), vs[i]? = some v → gs[i]? = some g → (Bytes w0 v g ∨ w.ownsRow b 5 1 v g.length (bv g))
theorem OutI.k {w0 w : World} {b : Nat} {u : Value} {gs : List (List UInt8)} (h : OutI w0 w b u gs) : OutK w0 b w u gs := by
  obtain ⟨vs, h1, h2, h3⟩ := h
  exact ⟨vs, h1, h2, fun i v g hv hg => .inl (h3 i v g hv hg)⟩
theorem OutK.keep {w0 w w' : World} {b : Nat} {u : Value} {gs : List (List UInt8)} (h : OutK w0 b w u gs) (hb : Below w.heap.size w w') : OutK w0 b w' u gs := by
  obtain ⟨vs, h1, h2, h3⟩ := h
  exact ⟨vs, h1.keep hb, h2, fun i v g hv hg => (h3 i v g hv hg).imp id (fun h => h.keep hb)⟩
theorem OutK.far {w0 w w' : World} {b g : Nat} {T : TypeId} {cs : List Value} {u : Value} {gs : List (List UInt8)} (h : OutK w0 b w u gs) (H : Blk w g T cs) (h1 : 37 ≠ T) (h2 : 5 ≠ T) (hg : w.grownBy w' (some g)) : OutK w0 b w' u gs := by
  obtain ⟨vs, h3, h4, h5⟩ := h
  exact ⟨vs, h3.kept hg (own_apart h3 H h1), h4, fun i v g hv hx => (h5 i v g hv hx).imp id (fun h => h.kept hg (own_apart h H h2))⟩
theorem OutK.rows {w0 w : World} {b : Nat} {u : Value} {gs : List (List UInt8)} (h : OutK w0 b w u gs) (hb : Bw w0 w) : Rows2 w u gs := by
  obtain ⟨vs, h1, h2, h3⟩ := h
  refine ⟨vs, ownSl h1, fun i l hl => ?_⟩
  have hi : i < vs.length := by have := (List.getElem?_eq_some_iff.1 hl).1; omega
  refine ⟨vs[i], List.getElem?_eq_getElem hi, ?_⟩
  rcases h3 i _ l (List.getElem?_eq_getElem hi) hl with h | h
  · exact SlR.keep h hb
  · exact ownSl h
theorem OutK.shape {w0 w : World} {b : Nat} {u : Value} {gs : List (List UInt8)} (h : OutK w0 b w u gs) : ∃ x c, u = .slice x gs.length c := by
  obtain ⟨vs, h2, h3, h4⟩ := h
  obtain ⟨x, c, rfl, _, _⟩ := (ownSl h2).shape
  exact ⟨x, c, rfl⟩
theorem OutK.one {w0 w : World} {b : Nat} {gs : List (List UInt8)} {vs : List Value} (h2 : vs.length = gs.length) (h3 : ∀ (i : Nat) (v : Value) (g : List UInt8), vs[i]? = some v → gs[i]? = some g → (Bytes w0 v g ∨ w.ownsRow b 5 1 v g.length (bv g))) : ∀ v ∈ vs, v.oneCell' = true := by
  intro v hv
  obtain ⟨i, hi, rfl⟩ := List.getElem_of_mem hv
  have := h3 i _ _ (List.getElem?_eq_getElem hi) (List.getElem?_eq_getElem (by omega))
  rcases this with h | h
  · obtain ⟨x, c, e, _⟩ := SlR.shape h
    rw [e]; rfl
  · obtain ⟨x, c, e, _⟩ := (ownSl h).shape
    rw [e]; rfl
theorem OutK.own {w0 w w' : World} {b b2 n : Nat} {e : TypeId} {s2 : Nat} {v : Value} {xs : List Value} {u : Value} {gs : List (List UInt8)} (h : OutK w0 b w u gs) (hm : w.ownsRow b2 e s2 v n xs) (h1 : 37 ≠ e) (h2 : 5 ≠ e) (hg : w.grownBy w' v.ownBlock) : OutK w0 b w' u gs := by
  obtain ⟨vs, h3, h4, h5⟩ := h
  exact ⟨vs, h3.kept hg (own_own h3 hm h1), h4, fun i v g hv hx => (h5 i v g hv hx).imp id (fun h => h.kept hg (own_own h hm h2))⟩
theorem DevO.own {b b2 n s2 : Nat} {w w' : World} {e : TypeId} {u v : Value} {xs : List Value} {d : Dev} (h : DevO b w u d) (hm : w.ownsRow b2 e s2 v n xs) (h1 : 54 ≠ e) (h2 : 78 ≠ e) (hg : w.grownBy w' v.ownBlock) : DevO b w' u d := by
  obtain ⟨p, c, hv, hp, hc⟩ := h
  exact ⟨p, c, hv, hp.kept hg (own_own hp hm h1), hc.kept hg (own_own hc hm h2)⟩
/-- masks, the first k of them cut to four bits -/
def mskd (M : List Int) (k : Nat) : List Int := (M.take k).map (· % 16) ++ M.drop k
theorem mskd_zero (M : List Int) : mskd M 0 = M := by simp [mskd]
theorem mskd_len (M : List Int) (k : Nat) : (mskd M k).length = M.length := by
  unfold mskd; rw [List.length_append, List.length_map, List.length_take, List.length_drop]; omega
theorem mskd_get (M : List Int) (k : Nat) (h : k < M.length) : (mskd M k)[k]? = some M[k] := by
  unfold mskd
  have hl : ((M.take k).map (· % 16)).length = k := by rw [List.length_map, List.length_take]; omega
  rw [List.getElem?_append_right (by omega), hl, Nat.sub_self, List.getElem?_drop, Nat.add_zero, List.getElem?_eq_getElem h]
theorem mskd_succ (M : List Int) (k : Nat) (h : k < M.length) : (mskd M k).set k (M[k] % 16) = mskd M (k + 1) := by
  unfold mskd
  have hl : ((M.take k).map (· % 16)).length = k := by rw [List.length_map, List.length_take]; omega
  rw [List.set_append_right _ _ (by omega), hl, Nat.sub_self, List.drop_eq_getElem_cons h, List.set_cons_zero, List.take_succ_eq_append_getElem h, List.map_append, List.append_assoc]
  rfl
theorem mskd_ok (M : List Int) (k : Nat) (h : k = M.length) : masksB (mskd M k) = true := by
  subst h
  unfold masksB mskd
  rw [List.take_length, List.drop_length, List.append_nil, List.all_map, List.all_eq_true]
  intro x _
  simp only [Function.comp, Bool.and_eq_true, decide_eq_true_eq]
  omega
theorem iC_set (l : List Int) (k : Nat) (z : Int) : (iC l).set k (.int .i64 z) = iC (l.set k z) := by unfold iC; rw [List.map_set]
set_option maxHeartbeats 2000000 in
set_option maxRecDepth 100000 in
theorem cloneG_any (gs : List (List UInt8)) (v : Value) (w0 : World) (b : Nat) (w : World) (hv : OutK w0 b w v gs) (hb0 : b ≤ w.heap.size) (hn : gs.length ≤ 1000) :
    Calls Try.prog 30 #[v] w fun e w' => ∃ u, e = .returned u ∧ OutK w0 b w' u gs ∧ Below w.heap.size w w' := by
  obtain ⟨vs, h1, h2, h3⟩ := hv
  have hone := OutK.one h2 h3
  have hsl := ownSl h1
  rcases hsl.2 with ⟨rfl, h0⟩ | ⟨x, cap, rfl, hc1, hc2, h5⟩
  · have hl : gs = [] := List.eq_nil_of_length_eq_zero h0
    subst hl
    have HV := Lib.hid hsl
    clear hsl h1 h2 h3 h0 hone
    have HB := Lib.hid (Below.refl w.heap.size w)
    go_enter Try.func30, Try.ntmps30
    have he : ∀ w : World, (binOp .eql 31 (.slice none 0 0) (.slice none 0 0)).run Try.prog w = .ok (.bool true) w := fun _ => rfl
    go_wp2_with fail
    go_ret
    exact ⟨_, rfl, ⟨[], World.ownsRow_nil _ _ _ _, rfl, fun i v g hv => by simp at hv⟩, HB.out⟩
  · have hc3 : cap ≤ 9223372036854775807 := by unfold maxLen at hc2; omega
    have hbA : Below w.heap.size w (w.alloc (.cells #[] 37)) := (Below.refl _ w).alloc (Nat.le_refl _) _
    have hs := Lib.hid (SlR.keep hsl hbA)
    have hown := Lib.hid (World.ownsRow_lit (e := 37) (size := 1) (base := w.heap.size) w #[] 0 (Nat.le_refl _) (by decide) rfl)
    have H3 := Lib.hid h3
    have HONE := Lib.hid hone
    clear hsl h5 hc1 hc2 h1 h3 hone
    have HB := Lib.hid (Below.refl w.heap.size w)
    go_enter Try.func30, Try.ntmps30
    have he : ∀ w : World, (binOp .eql 31 (.slice (some x) gs.length cap) (.slice none 0 0)).run Try.prog w = .ok (.bool false) w := fun _ => rfl
    have hone := HONE.out
    go_wp2_with (refine Agg.append tiGG _ _ rfl rfl w.heap.size (v := .slice (some ⟨w.heap.size, 0, none⟩) 0 0) rfl hown.out rfl hs.out hone (by unfold maxLen; omega) (by omega) (by simp) ?_; intro v' w' ho hg hnil; simp only [Act.put, List.setIfInBounds_toArray, List.set_cons_succ, List.set_cons_zero])
    go_ret
    refine ⟨v', rfl, ⟨vs, ?_, h2, fun i v g hv hgg => (H3.out i v g hv hgg).imp id (fun h => ?_)⟩, hbA.trans ((grown_below hg (B := w.heap.size) (by simp) (by simp [Value.ownBlock])))⟩
    · have := own_base ho hb0
      simpa using this
    · exact World.ownsRow.keep h (hbA.trans ((grown_below hg (B := w.heap.size) (by simp) (by simp [Value.ownBlock]))))
end Go.Proofs.Ytlddjcilbpcciaa
end
section
/-
  A REGION THAT DRAWS ITS ORDER, with operations behind a '&&' or '||' that do run: the laws of XHeld for them. Over any program.
-/
namespace Agg
open Go Go.RowKit
section
variable {P : Program} {Q : Exit → Act → World → Prop} {S : World → Prop} {l : List Oper} {l0 : List Value} {ds : List Deferred} {w : World} {o : Oper} {n i d : Nat} {bs : List Bool}

theorem heldTakeG (hc : (Region.noSelect l.toArray && Region.free .any l.toArray bs.toArray i && (Region.ready .any l.toArray bs.toArray).contains i) = true) (hi : l[i]? = some o) (hg : Region.wanted o (yielded l.toArray l0.toArray) = true) (hd : o.dst = some d) {v : Value}
    (hr : ∀ w, S w → (execOp (ev l0) o).run P w = .ok (.value v) w) (hS : S w) (h : Held P l Q S n (bs.set i true) (l0.set d v) ds w) : Held P l Q S (n + 1) bs l0 ds w := by
  simp only [Bool.and_eq_true] at hc
  refine wpAnyH_take (oi := o) (v := v) (by simpa using hi) hc.1.1 hc.1.2 hc.2 (fun c a w h => h) (.inl ⟨hg, fun w hw => ?_⟩) hS ?_
  · rw [ev_eq]; exact hr w hw
  · rw [hd, put_eq]
    have : bs.toArray.setIfInBounds i true = (bs.set i true).toArray := by simp
    rw [this]; exact h
theorem heldOneG (hr : Region.ready .any l.toArray bs.toArray = [i]) (hi : l[i]? = some o) (hg : Region.wanted o (yielded l.toArray l0.toArray) = true) (hd : o.dst = some d) {v : Value} {w' : World} (hrun : (execOp (ev l0) o).run P w = .ok (.value v) w') (hS : S w')
    (h : Held P l Q S n (bs.set i true) (l0.set d v) ds w') : Held P l Q S (n + 1) bs l0 ds w := by
  refine wpAnyH_all hr (by simp) fun j hj => ?_
  obtain rfl : j = i := by simpa using hj
  unfold wpOp
  have hi' : l.toArray[j]? = some o := by simpa using hi
  simp only [hi']
  rw [if_pos hg]
  refine .inl ?_
  unfold Oper.wp
  rw [ev_eq, hrun]
  refine ⟨hS, ?_⟩
  rw [hd, put_eq]
  have : bs.toArray.setIfInBounds j true = (bs.set j true).toArray := by simp
  rw [this]; exact h
theorem heldCallG {f : FuncId} {fn : Func} (hf : P.funcs[f]? = some fn) (hbody : fn.body.isNone = false) (hname : (fn.name == "runtime.NumGoroutine") = false) {args : List Operand} {ts : Array TypeId}
    (hr : Region.ready .any l.toArray bs.toArray = [i]) (hi : l[i]? = some o) (hg : Region.wanted o (yielded l.toArray l0.toArray) = true) (hd : o.dst = some d) (ho : o.op = .call { callee := .value (.func f), args := args.toArray, argTypes := ts })
    (hc : Calls P f (args.map (ev l0)).toArray w fun e w' => ∃ v, e = .returned v ∧ S w' ∧ Held P l Q S n (bs.set i true) (l0.set d v) ds w') : Held P l Q S (n + 1) bs l0 ds w := by
  refine wpAnyH_all hr (by simp) fun j hj => ?_
  obtain rfl : j = i := by simpa using hj
  unfold wpOp
  have hi' : l.toArray[j]? = some o := by simpa using hi
  simp only [hi']
  rw [if_pos hg]
  refine .inl ?_
  have hrun : (execOp (ev l0) o).run P w = .ok (.enter f (args.map (ev l0)).toArray) w := by
    have n1 : ¬ fn.name = "runtime.NumGoroutine" := by simpa using hname
    have n2 : ¬ fn.body = none := by intro e; rw [e] at hbody; cases hbody
    simp [execOp, ho, resolve, invoke, callFunc, hf, n1, n2, Deferred.ofValue, ev]
  unfold Oper.wp
  rw [ev_eq, hrun]
  refine hc.mono ?_
  rintro e w' ⟨v, rfl, hS, h⟩
  refine ⟨hS, ?_⟩
  rw [hd, put_eq]
  have : bs.toArray.setIfInBounds j true = (bs.set j true).toArray := by simp
  rw [this]; exact h
theorem heldAppendG {t e : TypeId} {size bytes : Nat} {z : Value} (T : TI P t e size bytes z) (s x : Operand)
    (hr : Region.ready .any l.toArray bs.toArray = [i]) (hi : l[i]? = some o) (hg : Region.wanted o (yielded l.toArray l0.toArray) = true) (hd : o.dst = some d) (ho : o.op = .call { callee := .builtin .append, args := #[s, x], argTypes := #[t, t] })
    (base : Nat) {v : Value} {m : Nat} {xs : List Value} (hs : ev l0 s = v) (hown : w.ownsRow base e size v m xs) {xv : Value} {k : Nat} {news : List Value} (hx : ev l0 x = xv) (hsl : SlR w xv size k news)
    (h1 : ∀ u ∈ news, u.oneCell' = true) (h63 : m + k ≤ maxLen) (hbytes : (m + k) * bytes ≤ 140737488355328) (hbase : base ≤ w.heap.size)
    (h : ∀ v' w', w'.ownsRow base e size v' (m + k) (xs ++ news) → w.grownBy w' v.ownBlock → (v'.ownBlock = v.ownBlock ∨ v'.ownBlock = some w.heap.size) → S w' ∧ Held P l Q S n (bs.set i true) (l0.set d v') ds w') : Held P l Q S (n + 1) bs l0 ds w := by
  obtain ⟨v', w', hrun, h2, h3, _⟩ := run_append_sl T o.type w base hown hsl h1 h63 hbytes hbase
  have := h v' w' h2 h3 (append_where T o.type w base hown hsl h1 h63 hbytes hrun)
  exact heldOneG hr hi hg hd (by simp [execOp, ho, resolve, hs, hx, invoke, builtin, hrun]) this.1 this.2
/-- a pick whose test is true -/
theorem run_pickT {c x y : Operand} {v : Value} (ho : o.op = .pick c x y) (hc : ev l0 c = .bool true) (hx : ev l0 x = v) : (execOp (ev l0) o).run P w = .ok (.value v) w := by
  have e : (asBool (.bool true)).run P w = .ok true w := rfl
  simp [execOp, ho, hc, hx, e]
end
end Agg
end
