/-
  THE WALK OF LAYER 19's STATEMENT LogCrash.
-/
import Derived.Test.YtlddjcilbpcciaaHeldG
namespace Go.Proofs.Ytlddjcilbpcciaa
open Go.ChangeShapes Go.WideShapes Go.ChangeAt Go.RowKit Agg Pg Dv Lg
attribute [local go_sem] Oper.semAt_some

/-- the first k pages came -/
def cmB (z m : Nat) (ms : List Int) (k : Nat) : Bool := decide (m ≤ z) && (List.range k).all fun i => decide (m < z) || decide (ms[i]? = some 15)
theorem cmB_zero (z m : Nat) (ms : List Int) : cmB z m ms 0 = decide (m ≤ z) := by unfold cmB; simp
theorem cmB_succ (z m : Nat) (ms : List Int) (k : Nat) : cmB z m ms (k + 1) = (cmB z m ms k && (decide (m < z) || decide (ms[k]? = some 15))) := by
  unfold cmB; rw [List.range_succ, List.all_append, ← Bool.and_assoc]; simp
theorem cmB_all (z m : Nat) (ms : List Int) : cmB z m ms m = cameB z m ms := rfl
theorem OutK.snoc {w0 w w' : World} {b : Nat} {gs : List (List UInt8)} {vs : List Value} {u v : Value} {B : List UInt8} (h2 : vs.length = gs.length) (h3 : ∀ (i : Nat) (v : Value) (g : List UInt8), vs[i]? = some v → gs[i]? = some g → (Bytes w0 v g ∨ w.ownsRow b 5 1 v g.length (bv g))) (hB : w.ownsRow b 5 1 v B.length (bv B)) (ho : w'.ownsRow b 37 1 u (gs ++ [B]).length (vs ++ [v])) (hk : ∀ x n xs, w.ownsRow b 5 1 x n xs → w'.ownsRow b 5 1 x n xs) : OutK w0 b w' u (gs ++ [B]) := by
  refine ⟨vs ++ [v], ho, by simp [h2], fun i x g hv hg => ?_⟩
  by_cases hi : i < gs.length
  · rw [List.getElem?_append_left (by omega)] at hv
    rw [List.getElem?_append_left hi] at hg
    exact (h3 i x g hv hg).imp id (fun h => hk _ _ _ h)
  · rw [List.getElem?_append_right (by omega)] at hv
    rw [List.getElem?_append_right (by omega)] at hg
    have hi0 : i - gs.length = 0 := by
      have := (List.getElem?_eq_some_iff.1 hg).1
      simp at this; omega
    rw [h2, hi0] at hv
    rw [hi0] at hg
    simp only [List.getElem?_cons_zero, Option.some.injEq] at hv hg
    subst hv; subst hg
    exact .inr (hk _ _ _ hB)

theorem OutK.base {w0 w : World} {b b' : Nat} {u : Value} {gs : List (List UInt8)} (h : OutK w0 b w u gs) (hb : b' ≤ b) : OutK w0 b' w u gs := by
  obtain ⟨vs, h1, h2, h3⟩ := h
  exact ⟨vs, own_base h1 hb, h2, fun i v g hv hg => (h3 i v g hv hg).imp id (fun h => own_base h hb)⟩
theorem OutI.one {w0 : World} {gs : List (List UInt8)} {vs : List Value} (h2 : vs.length = gs.length) (h3 : ∀ (i : Nat) (v : Value) (g : List UInt8), vs[i]? = some v → gs[i]? = some g → Bytes w0 v g) : ∀ v ∈ vs, v.oneCell' = true := by
  intro v hv
  obtain ⟨i, hi, rfl⟩ := List.getElem_of_mem hv
  obtain ⟨x, c, e, _⟩ := SlR.shape (h3 i _ _ (List.getElem?_eq_getElem hi) (List.getElem?_eq_getElem (by omega)))
  rw [e]; rfl
theorem app_rows {w0 w1 W W' : World} {b : Nat} {gs gs' : List (List UInt8)} {vs vs' : List Value} {u : Value} (h2 : vs.length = gs.length) (h3 : ∀ (i : Nat) (v : Value) (g : List UInt8), vs[i]? = some v → gs[i]? = some g → (Bytes w0 v g ∨ W.ownsRow b 5 1 v g.length (bv g)))
    (h4 : vs'.length = gs'.length) (h5 : ∀ (i : Nat) (v : Value) (g : List UInt8), vs'[i]? = some v → gs'[i]? = some g → Bytes w1 v g) (ho : W'.ownsRow b 37 1 u (gs.length + gs'.length) (vs ++ vs')) (hk : ∀ x n xs, W.ownsRow b 5 1 x n xs → W'.ownsRow b 5 1 x n xs) (h0 : Bw w0 W') (h1 : Bw w1 W') : Rows2 W' u (gs ++ gs') := by
  have hs := ownSl ho
  refine ⟨vs ++ vs', by rw [List.length_append]; exact hs, fun i l hl => ?_⟩
  by_cases hi : i < gs.length
  · rw [List.getElem?_append_left hi] at hl
    refine ⟨vs[i], by rw [List.getElem?_append_left (by omega)]; exact List.getElem?_eq_getElem (by omega), ?_⟩
    rcases h3 i _ l (List.getElem?_eq_getElem (by omega)) hl with h | h
    · exact SlR.keep h h0
    · exact ownSl (hk _ _ _ h)
  · rw [List.getElem?_append_right (by omega)] at hl
    have hi2 : i - gs.length < gs'.length := (List.getElem?_eq_some_iff.1 hl).1
    refine ⟨vs'[i - gs.length], by rw [List.getElem?_append_right (by omega), h2]; exact List.getElem?_eq_getElem (by omega), ?_⟩
    exact SlR.keep (h5 _ _ l (List.getElem?_eq_getElem (by omega)) hl) h1

theorem filT_ret {w0 W w2 : World} {dv : Value} {b : Nat} {R : Dev × List (List UInt8) × Nat × Nat} {Bk : Dev} {e : Ending} (hb : b ≤ W.heap.size) (hX : DevX w0 b Bk dv W)
    (h : ∃ v u, e = .returned (.tuple #[v, u, .agg #[.int .i64 (R.2.2.1 : Int), .int .u64 (R.2.2.2 : Int)], .bool true]) ∧ ((v = dv ∧ R.1 = Bk) ∨ DevO W.heap.size w2 v R.1) ∧ OutI w0 w2 W.heap.size u R.2.1 ∧ Below W.heap.size W w2) : ∃ x, e = .returned x ∧ FilT w0 b R x w2 ∧ Below W.heap.size W w2 := by
  obtain ⟨v, u, rfl, h1, h2, h3⟩ := h
  refine ⟨_, rfl, ⟨v, u, rfl, ?_, h2.base hb⟩, h3⟩
  rcases h1 with ⟨rfl, e1⟩ | h1
  · rw [e1]; exact DevX.keep hX h3
  · exact .inr (h1.base hb)

set_option maxHeartbeats 4000000 in
set_option maxRecDepth 100000 in
theorem crash_walk (old : List (List Sec)) (gs gs2 : List (List UInt8)) (lst : List UInt8) (fz : Int) (mk : List Int) (ov gv lv mv tv : Value) (w : World) (ho : ∀ b ∈ old, BOk b) (hol : old.length ≤ maxLen) (hv : Blks w ov old) (hgv : Rows2 w gv gs) (hlv : Bytes w lv lst) (hmv : Ints w mv mk) (hfz1 : -9223372036854775808 ≤ fz) (hfz2 : fz ≤ 9223372036854775807) (htv : Rows2 w tv gs2) :
    Calls Try.prog 8 #[ov, gv, lv, .int .i64 fz, mv, tv] w fun e w' => e = .returned (.bool true) ∧ Below w.heap.size w w' := by
  obtain ⟨ox, oc, rfl, hoc, hom⟩ := SlR.shape hv
  obtain ⟨gx, gc, rfl, hgc, hgm⟩ := rows2_shape hgv
  unfold maxLen at hgm
  obtain ⟨hF, hS⟩ := blank_facts ho
  have HBL := Lib.hid (fun W v h => blank_any old v W ho hol h)
  obtain ⟨d, hd⟩ : ∃ d, blankD old = d := ⟨_, rfl⟩
  rw [hd] at hF hS HBL
  obtain ⟨A, hA⟩ : ∃ A, grB d.pages = A := ⟨_, rfl⟩
  have hA2 : A ≤ 1152921504606846976 := by rw [← hA]; exact grB_le.2 hS
  have hSA : SecLe A d.pages := grB_le.1 (by omega)
  have HGR := Lib.hid (fun W v h => great_any d.pages hF.good.pages v W h)
  rw [hA] at HGR
  obtain ⟨hR1, hR2⟩ := fil_back (gs.take 6) hF hSA hA2
  have HFI := Lib.hid (fun W0 W v g h0 h1 h2 => filled_any d 0 A A (gs.take 6) v g W0 W h0 hF h1 h2 (by omega) hA (by rw [Nat.max_self]; omega))
  rw [Nat.max_self] at HFI
  obtain ⟨R, hR⟩ : ∃ R, filP (gs.take 6) d 0 A (A + 1) = R := ⟨_, rfl⟩
  rw [hR] at hR1 hR2 HFI
  have hb1 := hR1.le.2
  have hb2 := hR1.bound
  have HFD := Lib.hid hF
  have HSA := Lib.hid hSA
  have HRE := Lib.hid hR
  have HR1 := Lib.hid hR1
  have HOV := Lib.hid hv
  have HGV := Lib.hid hgv
  have HLV := Lib.hid hlv
  have HMV := Lib.hid hmv
  have HTV := Lib.hid htv
  have hb2' := hR1.bound
  clear hd hA hF hS hSA hR hR1 hR2 ho hv hgv hlv hmv htv hb2
  obtain ⟨n, hn⟩ : ∃ n, min gs.length 6 = n := ⟨_, rfl⟩
  have HMI : Hid (min (gs.length : Int) 6 = (n : Int)) := Lib.hid (by omega)
  have hng : n ≤ gs.length := by omega
  have HTK : Hid (gs.take 6 = gs.take n) := Lib.hid (by rw [← hn, Nat.min_comm, ← List.take_take, List.take_length])
  have HB := Lib.hid (Below.refl w.heap.size w)
  go_enter Try.func8, Try.ntmps8
  go_wp2_with fail
  refine (wakes_any w).mono ?_
  rintro e w1 ⟨rfl, hb⟩
  replace HB := Lib.hid (HB.out.trans (hb.mono HB.out.size))
  replace HOV := Lib.hid (HOV.out.keep hb)
  replace HGV := Lib.hid (HGV.out.keep hb)
  clear hb
  go_wp2_with fail
  refine (HBL.out w1 _ HOV.out).mono ?_
  rintro e w2 ⟨v, rfl, hv, hb⟩
  replace HB := Lib.hid (HB.out.trans (hb.mono HB.out.size))
  replace HOV := Lib.hid (HOV.out.keep hb)
  replace HGV := Lib.hid (HGV.out.keep hb)
  clear hb
  have HD := Lib.hid hv
  obtain ⟨px, pc, cx, cc, rfl⟩ := HD.out.shape
  clear hv HBL HOV
  obtain ⟨wB, hwB⟩ : ∃ x, x = w2 := ⟨_, rfl⟩
  have HX : Hid (Bw wB w2) := Lib.hid (by rw [hwB]; exact Below.refl _ _)
  have HD0 : Hid (DevR wB (.agg #[.slice px d.pages.length pc, .slice cx d.cache.length cc, .int .i64 d.fuse, .bool d.off]) d) := by rw [hwB]; exact HD
  have HG0 : Hid (Rows2 wB (.slice gx gs.length gc) gs) := by rw [hwB]; exact HGV
  have HGL : Hid (wB.heap.size = w2.heap.size) := Lib.hid (by rw [hwB])
  clear hwB
  go_upto_region 4 with (first
    | (refine Agg.allocRow 28 #[.slice none 0 0, .slice none 0 0, .int .i64 0, .bool false] rfl rfl (by kernel_rfl) ?_; simp only [Act.put, List.setIfInBounds_toArray, List.set_cons_succ, List.set_cons_zero])
    | (refine Agg.gStoreNew 4 [.slice px d.pages.length pc, .slice cx d.cache.length cc, .int .i64 d.fuse, .bool d.off] rfl rfl rfl rfl rfl rfl (by decide +kernel) rfl rfl (by simp [Value.oneCell']) ?_; simp only [Act.put]))
  have hgg := HB.out.size
  have HWB : Hid (w.heap.size ≤ wB.heap.size) := Lib.hid (by rw [HGL.out]; exact hgg)
  refine Agg.wp_at fun w3 hw3 => ?_
  have hb : Below w2.heap.size w2 w3 := by rw [hw3.out]; repeat (first | exact Below.refl _ _ | refine Agg.bel_drew ?_ | refine Agg.bel_alloc ?_ _)
  replace HB := Lib.hid (HB.out.trans (hb.mono HB.out.size))
  replace HGV := Lib.hid (HGV.out.keep hb)
  replace HD := Lib.hid (HD.out.keep hb)
  replace HX := Lib.hid (HX.out.keep hb)
  clear hb
  have H5 : Hid (Blk w3 w2.heap.size 28 [.slice px d.pages.length pc, .slice cx d.cache.length cc, .int .i64 d.fuse, .bool d.off]) := by show Blk _ _ _ _; rw [hw3.out]; exact Blk.new w2 28 #[.slice px d.pages.length pc, .slice cx d.cache.length cc, .int .i64 d.fuse, .bool d.off]
  clear hw3
  have HG5 : Hid (wB.heap.size ≤ w2.heap.size) := Lib.hid (by rw [HGL.out]; exact Nat.le_refl _)
  clear HGL
  generalize w2.heap.size = g5 at *
  clear HGV
  have c5 := H5.out.cell 0
  simp only [List.getElem?_cons_zero] at c5
  go_wp2_with fail
  clear c5
  refine (HGR.out w3 _ (DevR.pgs HD.out)).mono ?_
  rintro e w4 ⟨rfl, hb⟩
  replace HB := Lib.hid (HB.out.trans (hb.mono HB.out.size))
  replace HD := Lib.hid (HD.out.keep hb)
  replace HX := Lib.hid (HX.out.keep hb)
  replace H5 := Lib.hid (H5.out.keep hb)
  clear hb
  go_upto_region 7 with (fail)
  refine Agg.chainR 15 (by kernel_rfl) (by kernel_rfl) ?_
  simp only [List.take_succ_cons, List.take_zero, List.drop_succ_cons, List.drop_zero]
  refine Agg.chRowB 4 H5.out rfl (by decide +kernel) rfl rfl rfl rfl ?_
  refine Agg.chMove rfl rfl rfl rfl ?_
  refine Agg.chBuild (v := .agg #[.int .i64 0, .int .u64 (A : Int)]) rfl rfl rfl rfl (fun W => by simp [go_sem]) ?_
  refine Agg.chMove rfl rfl rfl rfl ?_
  refine Agg.chMove rfl rfl rfl rfl ?_
  refine Agg.chLen Try.underlying31 rfl rfl rfl rfl ?_
  refine Agg.chMin2 (n : Int) HMI.out rfl rfl rfl rfl rfl ?_
  refine Agg.chSlice none (some (.int .i64 (n : Int))) none rfl rfl rfl rfl rfl rfl rfl rfl (fun W => run_slice_upto tiGG gx gs.length gc n (by omega) W) ?_
  refine Agg.chCallG Try.func26 rfl (by kernel_rfl) (FilT wB w4.heap.size R) (FilT.stable _ _ R) rfl rfl rfl rfl (fun W hb => Calls.mono (HFI.out wB W _ _ (HX.out.keep hb) HD0.out (by rw [HTK.out]; exact rows2_take HG0.out n hng)) (by rintro e w2 ⟨v, u, rfl, h1, h2, h3⟩; exact ⟨_, rfl, ⟨v, u, rfl, h1.base hb.size, h2.base hb.size⟩, h3⟩)) ?_
  refine Agg.chMoveO 8 (FilT.stable _ _ R) rfl rfl rfl rfl rfl rfl ?_
  refine Agg.chExtractO 9 (DevX.stable _ _ _) FilT.c0 rfl rfl rfl rfl rfl rfl ?_
  refine Agg.chExtractO 9 (RowsV.stable _ _ _) FilT.c1 rfl rfl rfl rfl rfl rfl ?_
  refine Agg.chExtractO 9 (EqV.stable _) FilT.c2 rfl rfl rfl rfl rfl rfl ?_
  refine Agg.chExtractO 9 (EqV.stable _) FilT.c3 rfl rfl rfl rfl rfl rfl ?_
  refine Agg.chAlloc #[.int .i64 0, .int .u64 0] rfl (by kernel_rfl) rfl rfl ?_
  refine Agg.chEnd ?_
  intro vs w5 hb hf
  simp only [List.reverse, List.reverseAux, Agg.Facts] at hf
  obtain ⟨_, _, h10, h11, hv12, hv13, ⟨g9, hv14, hg9, hb9⟩, _⟩ := hf
  simp only [List.reverse, List.reverseAux, Agg.fill, List.set_cons_succ, List.set_cons_zero, hv12, hv13, hv14]
  obtain ⟨px2, pc2, cx2, cc2, hv10⟩ := DevX.shape h10
  obtain ⟨gx2, gc2, hv11⟩ := OutI.shape h11
  rw [hv10] at h10
  rw [hv11] at h11
  simp only [hv10, hv11]
  have hlt5 := H5.out.lt
  have h5 := H5.out.keep hb
  have hbA := HB.out.trans (hb.mono HB.out.size)
  have hxA := HX.out.keep hb
  have hg5 := HG5.out
  refine Agg.tStore 4 (cs := [.slice px2 R.1.pages.length pc2, .slice cx2 R.1.cache.length cc2, .int .i64 R.1.fuse, .bool R.1.off]) h5 rfl rfl rfl rfl rfl (by decide +kernel) rfl rfl (by simp [Value.oneCell']) (fun w60 hb60 hg60 => ?_)
  refine Agg.tAssign rfl rfl rfl ?_
  simp only [Agg.ev, List.getD_cons_zero, List.getD_cons_succ, List.set_cons_succ, List.set_cons_zero]
  refine Agg.tStore 2 (cs := [.int .i64 (R.2.2.1 : Int), .int .u64 (R.2.2.2 : Int)]) (hb9.far' hg60 (by omega)) rfl rfl rfl rfl rfl (by decide +kernel) rfl rfl (by simp [Value.oneCell']) (fun w61 hb61 hg61 => ?_)
  refine Agg.tAssign rfl rfl rfl ?_
  simp only [Agg.ev, List.getD_cons_zero, List.getD_cons_succ, List.set_cons_succ, List.set_cons_zero]
  refine Agg.wpNil ?_
  have h9 := hb9.far' hg60 (show g9 ≠ g5 by omega)
  have H13 := Lib.hid (hb60.far' hg61 (show g5 ≠ g9 by omega))
  have H17 := Lib.hid hb61
  have hx2 := Bw.grown (hxA.grown hg60 hg5) hg61 (by omega)
  have HB2 := Lib.hid ((hbA.trans (grown_below hg60 hbA.size (fun j hj => by cases hj; omega))).trans (grown_below hg61 (Nat.le_trans hbA.size hg60.size) (fun j hj => by cases hj; omega)))
  have HDX := Lib.hid ((h10.off hg60 hlt5).far h9 (by decide) (by decide) hg61)
  have HG1 := Lib.hid ((OutI.k ((OutI.grown h11 hg60 hlt5).far h9 (by decide) hg61)).base (Below.size HX.out))
  have HX2 := Lib.hid hx2
  have HGN : Hid (g5 ≠ g9 ∧ w.heap.size ≤ g5 ∧ w.heap.size ≤ g9 ∧ wB.heap.size ≤ g9) := Lib.hid ⟨by omega, by omega, by omega, by omega⟩
  clear hb hv10 hv11 hv12 hv13 hv14 hb9 hb60 hb61 hg60 hg61 h9 hx2 hxA hbA h5 h10 h11 HX HD0 HG0 HD HB HFI HGR hg5 hg9 hlt5
  have HB := HB2
  have HX := HX2
  clear HB2 HX2
  obtain ⟨lx, lc, rfl, hlc, hlm⟩ := SlR.shape HLV.out
  unfold maxLen at hlm
  obtain ⟨nl, hnl⟩ : ∃ k, min lst.length 700 = k := ⟨_, rfl⟩
  have hmil : min (lst.length : Int) 700 = (nl : Int) := by omega
  have hnl1 : nl ≤ lst.length := by omega
  have hnl7 : nl ≤ 700 := by omega
  have hlw := SlR.keep (show SlR w (.slice lx lst.length lc) 1 lst.length (bv lst) from HLV.out) HB.out
  have hlt := bytes_take (show Bytes w61 (.slice lx lst.length lc) lst from hlw) nl hnl1
  obtain ⟨T, hT⟩ : ∃ T, lst.take nl = T := ⟨_, rfl⟩
  have hTl : T.length = nl := by rw [← hT, List.length_take]; omega
  rw [hT] at hlt
  have hsu := Lib.hid (fun W : World => run_slice_upto ti25 lx lst.length lc nl (by omega) W)
  have hbA : Below w61.heap.size w61 (w61.alloc (.cells #[.int .u8 1] 5)) := (Below.refl _ _).alloc (Nat.le_refl _) _
  have HLI : Hid ((w61.alloc (.cells #[.int .u8 1] 5)).ownsRow w61.heap.size 5 1 (.slice (some ⟨w61.heap.size, 0, none⟩) 1 1) 1 (bv [1])) := Lib.hid (blk_own (r := []) (by
    rw [List.append_nil]
    exact Blk.new w61 5 #[.int .u8 1]) (Nat.le_refl _) (Nat.le_refl _) (by unfold maxLen; decide) (by simp [bv]) (by simp [bv]))
  have HDA : Hid (SlR (w61.alloc (.cells #[.int .u8 1] 5)) (.slice lx nl lc) 1 nl (bv T)) := Lib.hid (by
    have h : SlR w61 (.slice lx nl lc) 1 T.length (bv T) := hlt
    rw [hTl] at h
    exact SlR.keep h hbA)
  have HTL := Lib.hid hTl
  have hli := HLI.out
  have hda := HDA.out
  clear hlw hlt hT hnl hTl
  go_upto_region 9 with (first
    | (refine Agg.min2 _ _ _ (nl : Int) rfl rfl rfl rfl hmil ?_; simp only [Act.put, List.setIfInBounds_toArray, List.set_cons_succ, List.set_cons_zero])
    | (refine Agg.gSliceUp (.slice lx nl lc) rfl rfl rfl rfl hsu.out ?_; simp only [Act.put, List.setIfInBounds_toArray, List.set_cons_succ, List.set_cons_zero])
    | (refine Agg.append2 ti25 _ _ rfl rfl w61.heap.size rfl hli rfl hda (bv_one T) (by unfold maxLen; omega) (by omega) (by simp only [World.size_alloc]; omega) ?_; intro v2 w2 ho2 hg2 _; obtain ⟨x2, c2, rfl, _, _⟩ := (ownSl ho2).shape; simp only [Act.put, List.setIfInBounds_toArray, List.set_cons_succ, List.set_cons_zero]))
  have hb2 : Below w61.heap.size w61 w2 := hbA.trans (grown_below hg2 (by simp) (own_block hli))
  obtain ⟨B, hBd⟩ : ∃ B : List UInt8, 1 :: T = B := ⟨_, rfl⟩
  obtain ⟨bn, hbn⟩ : ∃ k, 1 + nl = k := ⟨_, rfl⟩
  have hBl : B.length = bn := by rw [← hBd, List.length_cons, HTL.out]; omega
  have HBO : Hid (w2.ownsRow w61.heap.size 5 1 (.slice x2 bn c2) bn (bv B)) := Lib.hid (by
    have e : bv [1] ++ bv T = bv B := by rw [← hBd, ← bv_append]; rfl
    rw [e, hbn] at ho2
    exact ho2)
  have HBO := Lib.hid (own_base HBO.out (Below.size HX.out))
  have hBne : B ≠ [] := by rw [← hBd]; simp
  have hbn7 : 1 ≤ bn ∧ bn ≤ 701 := by omega
  have hb := hb2
  replace HB := Lib.hid (HB.out.trans (hb.mono HB.out.size))
  replace H13 := Lib.hid (H13.out.keep hb)
  replace H17 := Lib.hid (H17.out.keep hb)
  replace HDX := Lib.hid (HDX.out.keep hb)
  replace HG1 := Lib.hid (HG1.out.keep hb)
  replace HX := Lib.hid (HX.out.keep hb)
  clear hb
  rw [hbn]
  clear hb2 hg2 ho2 hli hda HLI HDA hbA hsu hmil hBd hbn HTL
  have hmB := mG_eq B
  obtain ⟨m, hmBe⟩ : ∃ m, mG B = m := ⟨_, rfl⟩
  rw [hmBe, hBl] at hmB
  have hm1 : 1 ≤ m ∧ m ≤ 6 := by unfold needL at hmB; split at hmB <;> omega
  have HMB := Lib.hid hmB
  have HME := Lib.hid hmBe
  have HBL := Lib.hid hBl
  have HBN := Lib.hid hBne
  clear hmB hmBe hBl hBne
  go_wp2_with fail
  refine (need_any (bn : Int) (by omega) (by omega) w2).mono ?_
  rintro e w81 ⟨rfl, hb⟩
  replace HB := Lib.hid (HB.out.trans (hb.mono HB.out.size))
  replace H13 := Lib.hid (H13.out.keep hb)
  replace H17 := Lib.hid (H17.out.keep hb)
  replace HDX := Lib.hid (HDX.out.keep hb)
  replace HG1 := Lib.hid (HG1.out.keep hb)
  replace HX := Lib.hid (HX.out.keep hb)
  replace HBO := Lib.hid (HBO.out.keep hb)
  clear hb
  rw [← HMB.out]
  obtain ⟨l1, hl1⟩ : ∃ l, R.2.1 = l := ⟨_, rfl⟩
  obtain ⟨p, hp⟩ : ∃ p, R.2.2.1 = p := ⟨_, rfl⟩
  obtain ⟨la, hla⟩ : ∃ l, R.2.2.2 = l := ⟨_, rfl⟩
  rw [hp] at hb1
  rw [hp, hla] at H17
  rw [hl1] at HG1
  have hla2 : la ≤ A + 16 := by rw [hla, hp] at hb2'; omega
  have HRP := Lib.hid (And.intro hl1 (And.intro hp hla))
  rw [hl1]
  clear hl1 hp hla hb2'
  go_upto_region 10 with (fail)
  by_cases hfit : p + m ≤ 16
  · have d1 : decide ((m : Int) > 16 - (p : Int)) = false := by simp; omega
    refine Agg.listR 9 (by kernel_rfl) ?_
    simp only [List.take_succ_cons, List.take_zero, List.drop_succ_cons, List.drop_zero]
    refine Agg.chMove rfl rfl rfl rfl ?_
    refine Agg.chNot rfl rfl rfl rfl ?_
    refine Agg.chMove rfl rfl rfl rfl ?_
    refine Agg.chMove rfl rfl rfl rfl ?_
    refine Agg.chFA (by first | exact fo_Lo_0 | exact fo_fo_Dev_0) rfl rfl rfl rfl ?_
    refine Agg.chLoadB H17.out (by decide +kernel) rfl rfl (by rfl) rfl rfl ?_
    refine Agg.chAr64 rfl rfl rfl rfl (by omega) (by omega) rfl rfl ?_
    refine Agg.chGt false d1 rfl rfl rfl rfl rfl ?_
    refine Agg.chPick rfl rfl rfl rfl rfl ?_
    refine Agg.chEnd ?_
    intro vs w82 hb _
    show Exit.then _ _ Exit.normal _ _
    simp only [List.reverse, List.reverseAux, Agg.fill, List.set_cons_succ, List.set_cons_zero]
    replace HB := Lib.hid (HB.out.trans (hb.mono HB.out.size))
    replace H13 := Lib.hid (H13.out.keep hb)
    replace H17 := Lib.hid (H17.out.keep hb)
    replace HDX := Lib.hid (HDX.out.keep hb)
    replace HG1 := Lib.hid (HG1.out.keep hb)
    replace HX := Lib.hid (HX.out.keep hb)
    replace HBO := Lib.hid (HBO.out.keep hb)
    clear hb
    clear d1
    go_upto_region 12 with (fail)
    have hz0 := Int.emod_nonneg (fz % 18446744073709551616) (show ((m + 2 : Nat) : Int) ≠ 0 by omega)
    have hz1 := Int.emod_lt_of_pos (fz % 18446744073709551616) (show (0 : Int) < ((m + 2 : Nat) : Int) by omega)
    obtain ⟨r, hrz⟩ : ∃ r, (fz % 18446744073709551616) % ((m + 2 : Nat) : Int) = r := ⟨_, rfl⟩
    rw [hrz] at hz0 hz1
    obtain ⟨z, hz⟩ : ∃ z : Nat, (z : Int) = r := ⟨r.toNat, by omega⟩
    have hz2 : z ≤ m + 1 := by omega
    have hw1 : IntKind.u64.wrap fz = fz % 18446744073709551616 := by simp [IntKind.wrap, IntKind.bits, IntKind.signed]
    have hw2 : IntKind.u64.wrap ((m : Int) + 2) = ((m + 2 : Nat) : Int) := by rw [u64_small (by omega) (by omega)]; omega
    have hw3 : (fz % 18446744073709551616).tmod ((m + 2 : Nat) : Int) = (z : Int) := by rw [Int.tmod_eq_emod_of_nonneg (by omega), hz, hrz]
    have hw4 : IntKind.i64.wrap (z : Int) = (z : Int) := by rw [IntKind.wrap_i64]; omega
    have HW := Lib.hid (And.intro hw1 (And.intro hw2 (And.intro hw3 hw4)))
    clear hz hw1 hw2 hw3 hw4 hz0 hz1 hrz
    refine Agg.listR 7 (by kernel_rfl) ?_
    simp only [List.take_succ_cons, List.take_zero, List.drop_succ_cons, List.drop_zero]
    refine Agg.chMove rfl rfl rfl rfl ?_
    refine Agg.chInt (fz % 18446744073709551616) HW.out.1 (by kernel_rfl) Try.underlying65 rfl rfl rfl rfl ?_
    refine Agg.chMove rfl rfl rfl rfl ?_
    refine Agg.chAr64 rfl rfl rfl rfl (by omega) (by omega) rfl rfl ?_
    refine Agg.chInt ((m + 2 : Nat) : Int) HW.out.2.1 (by kernel_rfl) Try.underlying65 rfl rfl rfl rfl ?_
    refine Agg.chRem (z : Int) rfl rfl rfl (by omega) HW.out.2.2.1 rfl rfl ?_
    refine Agg.chInt (z : Int) HW.out.2.2.2 (by kernel_rfl) Try.underlying3 rfl rfl rfl rfl ?_
    refine Agg.chEnd ?_
    intro vs w83 hb _
    simp only [List.reverse, List.reverseAux, Agg.fill, List.set_cons_succ, List.set_cons_zero]
    replace HB := Lib.hid (HB.out.trans (hb.mono HB.out.size))
    replace H13 := Lib.hid (H13.out.keep hb)
    replace H17 := Lib.hid (H17.out.keep hb)
    replace HDX := Lib.hid (HDX.out.keep hb)
    replace HG1 := Lib.hid (HG1.out.keep hb)
    replace HX := Lib.hid (HX.out.keep hb)
    replace HBO := Lib.hid (HBO.out.keep hb)
    clear hb
    clear HW
    have HD1 := Lib.hid (DevX.read HDX.out HX.out)
    have hf1 : Fresh R.1 := HR1.out.fresh
    have hlit := lit_okG hf1 (z := z) (by omega)
    have HLT := Lib.hid (fun W v (h : DevR W v R.1) => light_R (w := W) (v := v) (d := R.1) hf1.good (by rw [hf1.cache]; decide) h (z : Int))
    rw [hlit.1] at HLT
    have HLG := Lib.hid hlit.2
    clear hlit
    have h13 := H13.out
    go_wp2_with (refine Agg.gLoadB 4 h13 rfl rfl rfl rfl (by decide +kernel) ?_; simp only [Act.put, List.setIfInBounds_toArray, List.set_cons_succ, List.set_cons_zero])
    clear h13
    refine (HLT.out w83 _ HD1.out).mono ?_
    rintro e w84 ⟨v, rfl, hv, hb⟩
    replace HB := Lib.hid (HB.out.trans (hb.mono HB.out.size))
    replace H13 := Lib.hid (H13.out.keep hb)
    replace H17 := Lib.hid (H17.out.keep hb)
    replace HG1 := Lib.hid (HG1.out.keep hb)
    replace HX := Lib.hid (HX.out.keep hb)
    replace HBO := Lib.hid (HBO.out.keep hb)
    replace HD1 := Lib.hid (HD1.out.keep hb)
    clear hb
    have HLV2 := Lib.hid hv.read
    obtain ⟨px3, pc3, cx3, cc3, rfl⟩ := HLV2.out.shape
    clear hv HLT
    obtain ⟨LD, hLD⟩ : ∃ D, fzD R.1 z = D := ⟨_, rfl⟩
    rw [hLD] at HLV2 HLG
    rw [hLD]
    have hAl : A ≤ la := by
      have h1 := (chain_le HR1.out.chain).2
      rw [HRP.out.2.2] at h1
      exact h1
    obtain ⟨st, hst⟩ : ∃ s, la + 1 = s := ⟨_, rfl⟩
    have hgood : DGood LD := by rw [← hLD]; exact ⟨hf1.good.pages, hf1.good.cache, hf1.good.nums, hf1.good.np⟩
    have hcl : LD.cache.length ≤ 10000 := by rw [← hLD]; show R.1.cache.length ≤ 10000; rw [hf1.cache]; decide
    have hcut : putG LD (p : Int) st B = (if z ≤ m then 10 else 0, cutD R.1 p st B z) := by
      rw [← hLD]
      have h := put_cut hf1 (a := p) (n := st) (z := z) HBN.out (by rw [HME.out]; exact hfit) (by omega) (by rw [HME.out]; omega) (by rw [HME.out]; exact hz2)
      rw [HME.out] at h
      exact h
    have HPT := Lib.hid (fun W v b h1 h2 => lput_any LD (p : Int) st B v b W hgood hcl h1 h2 (by rw [HBL.out]; omega) (by omega) (by omega) (by omega))
    rw [hcut] at HPT
    obtain ⟨CD, hCD⟩ : ∃ D, cutD R.1 p st B z = D := ⟨_, rfl⟩
    rw [hCD] at HPT
    dsimp only at HPT
    obtain ⟨ec, hec⟩ : ∃ e : Int, (if z ≤ m then (10 : Int) else 0) = e := ⟨_, rfl⟩
    rw [hec] at HPT
    have HEC := Lib.hid hec
    clear hec
    have HCD := Lib.hid hCD
    have hmx : max (la : Int) (A : Int) = (la : Int) := by omega
    have hadd : IntKind.u64.wrap ((la : Int) + 1) = (st : Int) := by rw [u64_small (by omega) (by omega)]; omega
    have HST := Lib.hid (And.intro hst (And.intro hmx hadd))
    have HF1 := Lib.hid hf1
    clear hLD hgood hcl hcut hCD hst hmx hadd hf1
    go_upto_region 14 with (first
      | (refine Agg.allocRow 28 #[.slice none 0 0, .slice none 0 0, .int .i64 0, .bool false] rfl rfl (by kernel_rfl) ?_; simp only [Act.put, List.setIfInBounds_toArray, List.set_cons_succ, List.set_cons_zero])
      | (refine Agg.gStoreNew 4 [.slice px3 LD.pages.length pc3, .slice cx3 LD.cache.length cc3, .int .i64 LD.fuse, .bool LD.off] rfl rfl rfl rfl rfl rfl (by decide +kernel) rfl rfl (by simp [Value.oneCell']) ?_; simp only [Act.put]))
    have hsz14 := HB.out.size
    refine Agg.wp_at fun w85 hw85 => ?_
    have hb : Below w84.heap.size w84 w85 := by rw [hw85.out]; repeat (first | exact Below.refl _ _ | refine Agg.bel_drew ?_ | refine Agg.bel_alloc ?_ _)
    replace HB := Lib.hid (HB.out.trans (hb.mono HB.out.size))
    replace H13 := Lib.hid (H13.out.keep hb)
    replace H17 := Lib.hid (H17.out.keep hb)
    replace HG1 := Lib.hid (HG1.out.keep hb)
    replace HX := Lib.hid (HX.out.keep hb)
    replace HBO := Lib.hid (HBO.out.keep hb)
    replace HLV2 := Lib.hid (HLV2.out.keep hb)
    clear hb
    have H19 : Hid (Blk w85 w84.heap.size 28 [.slice px3 LD.pages.length pc3, .slice cx3 LD.cache.length cc3, .int .i64 LD.fuse, .bool LD.off]) := by show Blk _ _ _ _; rw [hw85.out]; exact Blk.new w84 28 #[.slice px3 LD.pages.length pc3, .slice cx3 LD.cache.length cc3, .int .i64 LD.fuse, .bool LD.off]
    clear hw85
    generalize w84.heap.size = g19 at *
    go_upto_region 16 with (fail)
    refine Agg.listR 5 (by kernel_rfl) ?_
    simp only [List.take_succ_cons, List.take_zero, List.drop_succ_cons, List.drop_zero]
    refine Agg.chFA (by first | exact fo_Lo_1 | exact fo_fo_Dev_1) rfl rfl rfl rfl ?_
    refine Agg.chLoadB H17.out (by decide +kernel) rfl rfl (by rfl) rfl rfl ?_
    refine Agg.chMove rfl rfl rfl rfl ?_
    refine Agg.chMax2 (la : Int) HST.out.2.1 rfl rfl rfl rfl rfl ?_
    refine Agg.chAr (r := (st : Int)) rfl rfl rfl (congrArg some HST.out.2.2) rfl rfl ?_
    refine Agg.chEnd ?_
    intro vs w86 hb _
    simp only [List.reverse, List.reverseAux, Agg.fill, List.set_cons_succ, List.set_cons_zero]
    replace HB := Lib.hid (HB.out.trans (hb.mono HB.out.size))
    replace H13 := Lib.hid (H13.out.keep hb)
    replace H17 := Lib.hid (H17.out.keep hb)
    replace HG1 := Lib.hid (HG1.out.keep hb)
    replace HX := Lib.hid (HX.out.keep hb)
    replace HBO := Lib.hid (HBO.out.keep hb)
    replace HLV2 := Lib.hid (HLV2.out.keep hb)
    replace H19 := Lib.hid (H19.out.keep hb)
    clear hb
    have h19 := H19.out
    have c17 := H17.out.cell 0
    simp only [List.getElem?_cons_zero] at c17
    go_wp2_with (refine Agg.gLoadB 4 h19 rfl rfl rfl rfl (by decide +kernel) ?_; simp only [Act.put, List.setIfInBounds_toArray, List.set_cons_succ, List.set_cons_zero])
    clear h19 c17
    refine (HPT.out w86 _ _ HLV2.out (by show SlR _ _ 1 B.length _; rw [HBL.out]; exact ownSl HBO.out)).mono ?_
    rintro e w87 ⟨v, rfl, hv, hb⟩
    replace HB := Lib.hid (HB.out.trans (hb.mono HB.out.size))
    replace H13 := Lib.hid (H13.out.keep hb)
    replace H17 := Lib.hid (H17.out.keep hb)
    replace HG1 := Lib.hid (HG1.out.keep hb)
    replace HX := Lib.hid (HX.out.keep hb)
    replace HBO := Lib.hid (HBO.out.keep hb)
    replace HLV2 := Lib.hid (HLV2.out.keep hb)
    replace H19 := Lib.hid (H19.out.keep hb)
    clear hb
    have HCV := Lib.hid hv
    obtain ⟨px4, pc4, cx4, cc4, rfl⟩ := hv.read.shape
    clear hv HPT HLV2
    go_upto_region 18 with (first
      | (refine Agg.allocRow 28 #[.slice none 0 0, .slice none 0 0, .int .i64 0, .bool false] rfl rfl (by kernel_rfl) ?_; simp only [Act.put, List.setIfInBounds_toArray, List.set_cons_succ, List.set_cons_zero])
      | (refine Agg.gStoreNew 4 [.slice px4 CD.pages.length pc4, .slice cx4 CD.cache.length cc4, .int .i64 CD.fuse, .bool CD.off] rfl rfl rfl rfl rfl rfl (by decide +kernel) rfl rfl (by simp [Value.oneCell']) ?_; simp only [Act.put]))
    refine Agg.wp_at fun w88 hw88 => ?_
    have hb : Below w87.heap.size w87 w88 := by rw [hw88.out]; repeat (first | exact Below.refl _ _ | refine Agg.bel_drew ?_ | refine Agg.bel_alloc ?_ _)
    replace HB := Lib.hid (HB.out.trans (hb.mono HB.out.size))
    replace H13 := Lib.hid (H13.out.keep hb)
    replace H17 := Lib.hid (H17.out.keep hb)
    replace HG1 := Lib.hid (HG1.out.keep hb)
    replace HX := Lib.hid (HX.out.keep hb)
    replace HBO := Lib.hid (HBO.out.keep hb)
    replace HCV := Lib.hid (HCV.out.keep hb)
    clear hb
    have H22 : Hid (Blk w88 w87.heap.size 28 [.slice px4 CD.pages.length pc4, .slice cx4 CD.cache.length cc4, .int .i64 CD.fuse, .bool CD.off]) := by show Blk _ _ _ _; rw [hw88.out]; exact Blk.new w87 28 #[.slice px4 CD.pages.length pc4, .slice cx4 CD.cache.length cc4, .int .i64 CD.fuse, .bool CD.off]
    clear hw88
    generalize w87.heap.size = g22 at *
    obtain ⟨wZ, hwZ⟩ : ∃ x, x = w88 := ⟨_, rfl⟩
    subst hwZ
    have HBZ := HB
    have H13Z := H13
    have H17Z := H17
    have HG1Z := HG1
    have HXZ := HX
    have HBOZ := HBO
    have HCVZ := HCV
    have H22Z := H22
    clear HB H13 H17 HG1 HX HBO HCV H22 H19
    go_cut [118] from 105 to 118 (fun s wx => s = .bool false ∧ Below wZ.heap.size wZ wx)
    case first =>
      have HB := Lib.hid (Below.refl wZ.heap.size wZ)
      by_cases hzm : z ≤ m
      · obtain rfl : ec = 10 := by rw [← HEC.out, if_pos hzm]
        have d4 : decide ((z : Int) > (m : Int)) = false := by simp; omega
        refine Agg.listR 14 (by kernel_rfl) ?_
        simp only [List.take_succ_cons, List.take_zero, List.drop_succ_cons, List.drop_zero]
        refine Agg.chMove rfl rfl rfl rfl ?_
        refine Agg.chEq false (by decide) rfl rfl rfl rfl rfl ?_
        refine Agg.chMove rfl rfl rfl rfl ?_
        refine Agg.chMove rfl rfl rfl rfl ?_
        refine Agg.chGt false d4 rfl rfl rfl rfl rfl ?_
        refine Agg.chNeB false Try.underlying4 (by decide) rfl rfl rfl rfl rfl ?_
        refine Agg.chMove rfl rfl rfl rfl ?_
        refine Agg.chMove rfl rfl rfl rfl ?_
        refine Agg.chNe true (by decide) rfl rfl rfl rfl rfl ?_
        refine Agg.chMove rfl rfl rfl rfl ?_
        refine Agg.chMove rfl rfl rfl rfl ?_
        refine Agg.chNe false (by decide) rfl rfl rfl rfl rfl ?_
        refine Agg.chPick rfl rfl rfl rfl rfl ?_
        refine Agg.chPick rfl rfl rfl rfl rfl ?_
        refine Agg.chEnd ?_
        intro vs w121 hb _
        show Exit.then _ _ Exit.normal _ _
        simp only [List.reverse, List.reverseAux, Agg.fill, List.set_cons_succ, List.set_cons_zero]
        replace HB := Lib.hid (HB.out.trans (hb.mono HB.out.size))
        clear hb
        go_wp2_with fail
        go_meet
        exact ⟨rfl, HB.out⟩
      · obtain rfl : ec = 0 := by rw [← HEC.out, if_neg hzm]
        have d4 : decide ((z : Int) > (m : Int)) = true := by simp; omega
        refine Agg.listR 14 (by kernel_rfl) ?_
        simp only [List.take_succ_cons, List.take_zero, List.drop_succ_cons, List.drop_zero]
        refine Agg.chMove rfl rfl rfl rfl ?_
        refine Agg.chEq true (by decide) rfl rfl rfl rfl rfl ?_
        refine Agg.chMove rfl rfl rfl rfl ?_
        refine Agg.chMove rfl rfl rfl rfl ?_
        refine Agg.chGt true d4 rfl rfl rfl rfl rfl ?_
        refine Agg.chNeB false Try.underlying4 (by decide) rfl rfl rfl rfl rfl ?_
        refine Agg.chMove rfl rfl rfl rfl ?_
        refine Agg.chMove rfl rfl rfl rfl ?_
        refine Agg.chNe false (by decide) rfl rfl rfl rfl rfl ?_
        refine Agg.chMove rfl rfl rfl rfl ?_
        refine Agg.chSkip rfl rfl ?_
        refine Agg.chSkip rfl rfl ?_
        refine Agg.chPick rfl rfl rfl rfl rfl ?_
        refine Agg.chPick rfl rfl rfl rfl rfl ?_
        refine Agg.chEnd ?_
        intro vs w122 hb _
        show Exit.then _ _ Exit.normal _ _
        simp only [List.reverse, List.reverseAux, Agg.fill, List.set_cons_succ, List.set_cons_zero]
        replace HB := Lib.hid (HB.out.trans (hb.mono HB.out.size))
        clear hb
        go_wp2_with fail
        go_meet
        exact ⟨rfl, HB.out⟩
    case rest =>
      obtain ⟨rfl, hbc⟩ := hcut
      have HB := Lib.hid (HBZ.out.trans (hbc.mono HBZ.out.size))
      have H13 := Lib.hid (H13Z.out.keep hbc)
      have H17 := Lib.hid (H17Z.out.keep hbc)
      have HG1 := Lib.hid (HG1Z.out.keep hbc)
      have HX := Lib.hid (HXZ.out.keep hbc)
      have HBO := Lib.hid (HBOZ.out.keep hbc)
      have HCV := Lib.hid (HCVZ.out.keep hbc)
      have H22 := Lib.hid (H22Z.out.keep hbc)
      clear hbc HBZ H13Z H17Z HG1Z HXZ HBOZ HCVZ H22Z
      have HWC : Hid (w.heap.size ≤ wc.heap.size ∧ wB.heap.size ≤ wc.heap.size) := Lib.hid ⟨HB.out.size, Below.size HX.out⟩
      obtain ⟨mx0, mc0, rfl, hmc, hmm⟩ := SlR.shape HMV.out
      unfold maxLen at hmm
      obtain ⟨nm, hnm⟩ : ∃ k, min mk.length 20 = k := ⟨_, rfl⟩
      have hmim : min (mk.length : Int) 20 = (nm : Int) := by omega
      have hnm1 : nm ≤ mk.length := by omega
      have hnm2 : nm ≤ 20 := by omega
      have hmw := SlR.keep (show SlR w (.slice mx0 mk.length mc0) 1 mk.length (iC mk) from HMV.out) HB.out
      have hmt := SlR.take hmw nm hnm1
      obtain ⟨M, hM⟩ : ∃ M, mk.take nm = M := ⟨_, rfl⟩
      have hMl : M.length = nm := by rw [← hM, List.length_take]; omega
      have hMc : (iC mk).take (nm * 1) = iC M := by rw [← hM, Nat.mul_one]; unfold iC; rw [List.map_take]
      rw [hMc] at hmt
      have hsu := Lib.hid (fun W : World => run_slice_upto tiInt mx0 mk.length mc0 nm (by omega) W)
      have hbA : Below wc.heap.size wc (wc.alloc (.cells #[] 3)) := (Below.refl _ _).alloc (Nat.le_refl _) _
      have HLI := Lib.hid (World.ownsRow_lit (e := 3) (size := 1) (base := wc.heap.size) wc #[] 0 (Nat.le_refl _) (by decide) rfl)
      have HDA : Hid (SlR (wc.alloc (.cells #[] 3)) (.slice mx0 nm mc0) 1 nm (iC M)) := Lib.hid (SlR.keep hmt hbA)
      have HML := Lib.hid hMl
      have hone : ∀ u ∈ iC M, u.oneCell' = true := by
        intro u hu
        unfold iC at hu
        obtain ⟨x, _, rfl⟩ := List.mem_map.1 hu
        rfl
      have hli := HLI.out
      have hda := HDA.out
      clear hmw hmt hM hMc hMl hnm
      go_upto_region 21 with (first
        | (refine Agg.min2 _ _ _ (nm : Int) rfl rfl rfl rfl hmim ?_; simp only [Act.put, List.setIfInBounds_toArray, List.set_cons_succ, List.set_cons_zero])
        | (refine Agg.gSliceUp (.slice mx0 nm mc0) rfl rfl rfl rfl hsu.out ?_; simp only [Act.put, List.setIfInBounds_toArray, List.set_cons_succ, List.set_cons_zero])
        | (refine Agg.append2 tiInt _ _ rfl rfl wc.heap.size (v := .slice (some ⟨wc.heap.size, 0, none⟩) 0 0) rfl hli rfl hda hone (by unfold maxLen; omega) (by omega) (by simp only [World.size_alloc]; omega) ?_; intro v3 w3 ho3 hg3 _; obtain ⟨x3, c3, rfl, _, _⟩ := (ownSl ho3).shape; simp only [Act.put, List.setIfInBounds_toArray, List.set_cons_succ, List.set_cons_zero]))
      have hb3 : Below wc.heap.size wc w3 := hbA.trans (grown_below hg3 (by simp) (own_block hli))
      rw [Nat.zero_add] at ho3 ⊢
      have hMR : w3.ownsRow wc.heap.size 3 1 (.slice x3 nm c3) nm (iC M) := by simpa using ho3
      have HMR := Lib.hid hMR
      have hb := hb3
      replace HB := Lib.hid (HB.out.trans (hb.mono HB.out.size))
      replace H13 := Lib.hid (H13.out.keep hb)
      replace H17 := Lib.hid (H17.out.keep hb)
      replace HG1 := Lib.hid (HG1.out.keep hb)
      replace HX := Lib.hid (HX.out.keep hb)
      replace HBO := Lib.hid (HBO.out.keep hb)
      replace HCV := Lib.hid (HCV.out.keep hb)
      replace H22 := Lib.hid (H22.out.keep hb)
      clear hb
      clear hb3 hg3 ho3 hMR hli hda HLI HDA hbA hsu hmim hone
      go_wp2_with fail
      obtain ⟨wY, hwY⟩ : ∃ x, x = w3 := ⟨_, rfl⟩
      subst hwY
      have HBY := HB
      have H13Y := H13
      have H17Y := H17
      have HG1Y := HG1
      have HXY := HX
      have HBOY := HBO
      have HCVY := HCV
      have H22Y := H22
      have HMRY := HMR
      clear HB H13 H17 HG1 HX HBO HCV H22 HMR
      go_loopw [128, 23] (fun ix _ wr => ∃ k : Nat, k ≤ nm ∧ ix = .int .i64 k ∧ wr.ownsRow wc.heap.size 3 1 (.slice x3 nm c3) nm (iC (mskd M k)) ∧ wY.grownBy wr (Value.slice x3 nm c3).ownBlock) (fun ix _ _ => nm - (intOf ix).toNat)
      case atStart => exact ⟨0, by omega, rfl, by rw [mskd_zero]; exact HMRY.out, World.grownBy.refl _ _⟩
      case round =>
        obtain ⟨k, hk, rfl, hrow, hgw⟩ := hrel
        have HROW := Lib.hid hrow
        have HGW := Lib.hid hgw
        clear hrow hgw
        obtain ⟨wE, hwE⟩ : ∃ x, x = wr := ⟨_, rfl⟩
        subst hwE
        by_cases hlt : k < nm
        · obtain ⟨gm, cm, hve⟩ := ownPos HROW.out (by omega)
          injection hve with q1 q2 q3
          subst q1; clear q2
          have hkM : k < M.length := by rw [HML.out]; exact hlt
          obtain ⟨x0, hx0⟩ : ∃ x, M[k] = x := ⟨_, rfl⟩
          have hget := mskd_get M k hkM
          have hsuc := mskd_succ M k hkM
          rw [hx0] at hget hsuc
          have hcell : wE.cell? ⟨gm, k, none⟩ = some (.int .i64 x0) := by
            obtain ⟨r, hb, _⟩ := ownBlk HROW.out
            rw [hb.cell]
            have hl : k < (iC (mskd M k)).length := by unfold iC; rw [List.length_map, mskd_len]; exact hkM
            rw [List.getElem?_append_left hl]
            unfold iC
            rw [List.getElem?_map, hget]
            rfl
          have hand : bits .and .i64 x0 15 = x0 % 16 := and_15 x0
          have hrw := HROW.out
          have HSU := Lib.hid hsuc
          clear hget hsuc hx0
          go_wp2_with (refine Agg.gStoreOwn k (.int .i64 (x0 % 16)) hrw hlt rfl rfl rfl rfl rfl rfl rfl rfl (fun w7 ho7 hg7 => ?_))
          rw [iC_set, HSU.out] at ho7
          have hgz := grown_same HGW.out hg7
          exact ⟨⟨k + 1, by omega, by go_num, ho7, hgz⟩, by simp [intOf]; omega⟩
        · obtain rfl : k = nm := by omega
          have hg := HGW.out
          have hmr := HMRY.out
          have hoB := own_block hmr
          have hwcY := HWC.out
          have HB := Lib.hid (HBY.out.trans (grown_below hg HBY.out.size (fun j e => Nat.le_trans hwcY.1 (hoB j e))))
          have H13 := Lib.hid (blk_row H13Y.out hg (own_apart hmr H13Y.out (by decide)))
          have H17 := Lib.hid (blk_row H17Y.out hg (own_apart hmr H17Y.out (by decide)))
          have H22 := Lib.hid (blk_row H22Y.out hg (own_apart hmr H22Y.out (by decide)))
          have HG1 := Lib.hid (OutK.own HG1Y.out hmr (by decide) (by decide) hg)
          have HCV := Lib.hid (DevO.own HCVY.out hmr (by decide) (by decide) hg)
          have HBO := Lib.hid (World.ownsRow.kept HBOY.out hg (own_own HBOY.out hmr (by decide)))
          have HX : Hid (Bw wB wE) := Lib.hid (Below.trans HXY.out (grown_below hg (Below.size HXY.out) (fun j e => Nat.le_trans hwcY.2 (hoB j e))))
          have hmk := mskd_ok M k (by rw [HML.out])
          have hmskl := mskd_len M k
          obtain ⟨MS, hMS⟩ : ∃ N, mskd M k = N := ⟨_, rfl⟩
          rw [hMS] at HROW hmk hmskl
          have HMSL : Hid (MS.length = k) := Lib.hid (hmskl.trans HML.out)
          have HMK := Lib.hid hmk
          clear hg hmr hoB HBY H13Y H17Y H22Y HG1Y HCVY HBOY HXY HMRY HGW hmk hmskl hMS
          have hcr := crash_cut HF1.out (a := p) (n := st) (z := z) (ms := MS) HBN.out (by rw [HME.out]; exact hfit) (by have := HST.out.1; omega) (by rw [HME.out]; have := HST.out.1; omega) HMK.out
          rw [HCD.out] at hcr
          have hccl : CD.cache.length ≤ 1000000 := by
            rw [← HCD.out]
            unfold cutD
            split
            · show (R.1.cache ++ _).length ≤ _
              rw [HF1.out.cache, List.nil_append, List.length_take]; omega
            · show (putD R.1 p st B).cache.length ≤ _
              exact Nat.zero_le _
          have HCR := Lib.hid (fun W v mv (h : DevR W v CD) (hm : Ints W mv MS) => crash_R (w := W) (v := v) (d := CD) hcr.2.2 hccl h (by rw [HMSL.out]; omega) hm)
          rw [hcr.1] at HCR
          obtain ⟨Bk, hBk⟩ : ∃ D, backD R.1 p st B z MS = D := ⟨_, rfl⟩
          have hfb := hcr.2.1
          rw [hBk] at HCR hfb
          have HBK := Lib.hid hBk
          have HFB := Lib.hid hfb
          clear hcr hccl hBk hfb
          have HXE : Hid (Bw wE wE) := Lib.hid (Below.refl _ _)
          have HMS : Hid (SlR wE (.slice x3 k c3) 1 k (iC MS)) := Lib.hid (ownSl HROW.out)
          have h22 := H22.out
          go_wp2_with (refine Agg.gLoadB 4 h22 rfl rfl rfl rfl (by decide +kernel) ?_; simp only [Act.put, List.setIfInBounds_toArray, List.set_cons_succ, List.set_cons_zero])
          clear h22
          refine (HCR.out wE _ _ HCV.out.read (by show SlR _ _ 1 MS.length _; rw [HMSL.out]; exact ownSl HROW.out)).mono ?_
          rintro e w181 ⟨v, rfl, hv, hb⟩
          replace HB := Lib.hid (HB.out.trans (hb.mono HB.out.size))
          replace H17 := Lib.hid (H17.out.keep hb)
          replace HG1 := Lib.hid (HG1.out.keep hb)
          replace HX := Lib.hid (HX.out.keep hb)
          replace HBO := Lib.hid (HBO.out.keep hb)
          replace HCV := Lib.hid (HCV.out.keep hb)
          replace HROW := Lib.hid (HROW.out.keep hb)
          replace H22 := Lib.hid (H22.out.keep hb)
          replace HXE := Lib.hid (HXE.out.keep hb)
          replace HMS := Lib.hid (HMS.out.keep hb)
          clear hb
          have HVX : Hid (DevX w wE.heap.size Bk v w181) := Lib.hid (.inr hv)
          obtain ⟨px6, pc6, cx6, cc6, rfl⟩ := HVX.out.shape
          clear hv HCR HCV HROW H22
          have hsE := Below.size HXE.out
          have hsW := HB.out.size
          have hsX := Below.size HX.out
          go_upto_region 27 with (first
            | (refine Agg.allocRow 28 #[.slice none 0 0, .slice none 0 0, .int .i64 0, .bool false] rfl rfl (by kernel_rfl) ?_; simp only [Act.put, List.setIfInBounds_toArray, List.set_cons_succ, List.set_cons_zero])
            | (refine Agg.gStoreNew 4 [.slice px6 Bk.pages.length pc6, .slice cx6 Bk.cache.length cc6, .int .i64 Bk.fuse, .bool Bk.off] rfl rfl rfl rfl rfl rfl (by decide +kernel) rfl rfl (by simp [Value.oneCell']) ?_; simp only [Act.put]))
          refine Agg.wp_at fun w182 hw182 => ?_
          have hb : Below w181.heap.size w181 w182 := by rw [hw182.out]; repeat (first | exact Below.refl _ _ | refine Agg.bel_drew ?_ | refine Agg.bel_alloc ?_ _)
          replace HB := Lib.hid (HB.out.trans (hb.mono HB.out.size))
          replace H17 := Lib.hid (H17.out.keep hb)
          replace HG1 := Lib.hid (HG1.out.keep hb)
          replace HX := Lib.hid (HX.out.keep hb)
          replace HBO := Lib.hid (HBO.out.keep hb)
          replace HXE := Lib.hid (HXE.out.keep hb)
          replace HMS := Lib.hid (HMS.out.keep hb)
          replace HVX := Lib.hid (HVX.out.keep hb)
          clear hb
          have H24 : Hid (Blk w182 w181.heap.size 28 [.slice px6 Bk.pages.length pc6, .slice cx6 Bk.cache.length cc6, .int .i64 Bk.fuse, .bool Bk.off]) := by show Blk _ _ _ _; rw [hw182.out]; exact Blk.new w181 28 #[.slice px6 Bk.pages.length pc6, .slice cx6 Bk.cache.length cc6, .int .i64 Bk.fuse, .bool Bk.off]
          clear hw182
          generalize w181.heap.size = g24 at *
          go_upto_region 29 with (fail)
          obtain ⟨q0, hq0⟩ : ∃ q, cmB z m MS 0 = q := ⟨_, rfl⟩
          have HQ0 := Lib.hid hq0
          have hge : decide ((z : Int) ≥ (m : Int)) = q0 := by rw [← hq0, cmB_zero]; exact decide_eq_decide.2 (by omega)
          clear hq0
          refine Agg.listR 4 (by kernel_rfl) ?_
          simp only [List.take_succ_cons, List.take_zero, List.drop_succ_cons, List.drop_zero]
          refine Agg.chMove rfl rfl rfl rfl ?_
          refine Agg.chMove rfl rfl rfl rfl ?_
          refine Agg.chGe q0 hge rfl rfl rfl rfl rfl ?_
          refine Agg.chAssign rfl rfl rfl rfl ?_
          refine Agg.chEnd ?_
          intro vs w183 hb _
          show Exit.then _ _ Exit.normal _ _
          simp only [List.reverse, List.reverseAux, Agg.fill, List.set_cons_succ, List.set_cons_zero]
          replace HB := Lib.hid (HB.out.trans (hb.mono HB.out.size))
          replace H17 := Lib.hid (H17.out.keep hb)
          replace HG1 := Lib.hid (HG1.out.keep hb)
          replace HX := Lib.hid (HX.out.keep hb)
          replace HBO := Lib.hid (HBO.out.keep hb)
          replace HXE := Lib.hid (HXE.out.keep hb)
          replace HMS := Lib.hid (HMS.out.keep hb)
          replace HVX := Lib.hid (HVX.out.keep hb)
          replace H24 := Lib.hid (H24.out.keep hb)
          clear hb
          clear hge
          go_wp2_with fail
          obtain ⟨wF, hwF⟩ : ∃ x, x = w183 := ⟨_, rfl⟩
          subst hwF
          have HBF := HB
          have H17F := H17
          have HG1F := HG1
          have HXF := HX
          have HBOF := HBO
          have HXEF := HXE
          have HMSF := HMS
          have HVXF := HVX
          have H24F := H24
          clear HB H17 HG1 HX HBO HXE HMS HVX H24
          go_loopw [150, 26] (fun ix s26 wr => ∃ j : Nat, j ≤ m ∧ ix = .int .i64 j ∧ s26 = .bool (cmB z m MS j) ∧ Below wF.heap.size wF wr) (fun ix _ _ => m - (intOf ix).toNat)
          case atStart => exact ⟨0, by omega, rfl, by rw [HQ0.out], Below.refl _ _⟩
          case round =>
            obtain ⟨j, hj, rfl, rfl, hbl⟩ := hrel
            have HB := Lib.hid hbl
            obtain ⟨wL, hwL⟩ : ∃ x, x = wr := ⟨_, rfl⟩
            subst hwL
            have hmsf := SlR.keep HMSF.out hbl
            clear hbl
            by_cases hlt : j < m
            · have hsuc := cmB_succ z m MS j
              obtain ⟨q, hq⟩ : ∃ q, cmB z m MS j = q := ⟨_, rfl⟩
              rw [hq] at hsuc ⊢
              have HSU := Lib.hid hsuc
              clear hsuc hq
              go_upto_region 33 with (fail)
              by_cases hq : q = false
              · subst hq
                refine Agg.listR 19 (by kernel_rfl) ?_
                simp only [List.take_succ_cons, List.take_zero, List.drop_succ_cons, List.drop_zero]
                refine Agg.chMove rfl rfl rfl rfl ?_
                refine Agg.chMove rfl rfl rfl rfl ?_
                refine Agg.chSkip rfl rfl ?_
                refine Agg.chSkip rfl rfl ?_
                refine Agg.chSkip rfl rfl ?_
                refine Agg.chSkip rfl rfl ?_
                refine Agg.chSkip rfl rfl ?_
                refine Agg.chSkip rfl rfl ?_
                refine Agg.chSkip rfl rfl ?_
                refine Agg.chSkip rfl rfl ?_
                refine Agg.chSkip rfl rfl ?_
                refine Agg.chSkip rfl rfl ?_
                refine Agg.chSkip rfl rfl ?_
                refine Agg.chSkip rfl rfl ?_
                refine Agg.chSkip rfl rfl ?_
                refine Agg.chSkip rfl rfl ?_
                refine Agg.chSkip rfl rfl ?_
                refine Agg.chSkip rfl rfl ?_
                refine Agg.chPick rfl rfl rfl rfl rfl ?_
                refine Agg.chEnd ?_
                intro vs w201 hb hf
                simp only [List.reverse, List.reverseAux, Agg.Facts] at hf
                obtain _ := hf
                simp only [List.reverse, List.reverseAux, Agg.fill, List.set_cons_succ, List.set_cons_zero]
                go_wp2_with fail
                exact ⟨⟨j + 1, by omega, by go_num, by rw [HSU.out]; rfl, HB.out.trans (hb.mono HB.out.size)⟩, by simp [intOf]; omega⟩
              · obtain rfl : q = true := by simpa using hq
                by_cases hzm : m < z
                · have d4 : decide ((z : Int) > (m : Int)) = true := by simp; omega
                  refine Agg.listR 19 (by kernel_rfl) ?_
                  simp only [List.take_succ_cons, List.take_zero, List.drop_succ_cons, List.drop_zero]
                  refine Agg.chMove rfl rfl rfl rfl ?_
                  refine Agg.chMove rfl rfl rfl rfl ?_
                  refine Agg.chMove rfl rfl rfl rfl ?_
                  refine Agg.chMove rfl rfl rfl rfl ?_
                  refine Agg.chGt true d4 rfl rfl rfl rfl rfl ?_
                  refine Agg.chMove rfl rfl rfl rfl ?_
                  refine Agg.chSkip rfl rfl ?_
                  refine Agg.chSkip rfl rfl ?_
                  refine Agg.chSkip rfl rfl ?_
                  refine Agg.chSkip rfl rfl ?_
                  refine Agg.chSkip rfl rfl ?_
                  refine Agg.chSkip rfl rfl ?_
                  refine Agg.chSkip rfl rfl ?_
                  refine Agg.chSkip rfl rfl ?_
                  refine Agg.chSkip rfl rfl ?_
                  refine Agg.chSkip rfl rfl ?_
                  refine Agg.chSkip rfl rfl ?_
                  refine Agg.chPick rfl rfl rfl rfl rfl ?_
                  refine Agg.chPick rfl rfl rfl rfl rfl ?_
                  refine Agg.chEnd ?_
                  intro vs w202 hb hf
                  simp only [List.reverse, List.reverseAux, Agg.Facts] at hf
                  obtain _ := hf
                  simp only [List.reverse, List.reverseAux, Agg.fill, List.set_cons_succ, List.set_cons_zero]
                  go_wp2_with fail
                  exact ⟨⟨j + 1, by omega, by go_num, by rw [HSU.out, decide_eq_true hzm]; rfl, HB.out.trans (hb.mono HB.out.size)⟩, by simp [intOf]; omega⟩
                · have d4 : decide ((z : Int) > (m : Int)) = false := by simp; omega
                  by_cases hjk : j < k
                  · have hjM : j < MS.length := by rw [HMSL.out]; exact hjk
                    obtain ⟨gm, om, cm, hve, _⟩ := SlR.pos hmsf (by decide) (by omega)
                    injection hve with q1 q2 q3
                    subst q1; clear q2 q3
                    have hcell := ints_at (l := MS) (by show SlR _ _ 1 MS.length _; rw [HMSL.out]; exact hmsf) hjM
                    obtain ⟨x0, hx0⟩ : ∃ x, MS[j] = x := ⟨_, rfl⟩
                    have hsome : MS[j]? = some x0 := by rw [List.getElem?_eq_getElem hjM, hx0]
                    rw [hx0] at hcell
                    have d9 : decide ((j : Int) < (k : Int)) = true := by simp; omega
                    have hcl := Lib.hid hcell
                    clear hcell hx0 hmsf
                    by_cases h15 : x0 = 15
                    · have d15 : (x0 == 15) = true := by simp [h15]
                      refine Agg.listR 19 (by kernel_rfl) ?_
                      simp only [List.take_succ_cons, List.take_zero, List.drop_succ_cons, List.drop_zero]
                      refine Agg.chMove rfl rfl rfl rfl ?_
                      refine Agg.chMove rfl rfl rfl rfl ?_
                      refine Agg.chMove rfl rfl rfl rfl ?_
                      refine Agg.chMove rfl rfl rfl rfl ?_
                      refine Agg.chGt false d4 rfl rfl rfl rfl rfl ?_
                      refine Agg.chMove rfl rfl rfl rfl ?_
                      refine Agg.chMove rfl rfl rfl rfl ?_
                      refine Agg.chMove rfl rfl rfl rfl ?_
                      refine Agg.chLen Try.underlying64 rfl rfl rfl rfl ?_
                      refine Agg.chLt true d9 rfl rfl rfl rfl rfl ?_
                      refine Agg.chMove rfl rfl rfl rfl ?_
                      refine Agg.chMove rfl rfl rfl rfl ?_
                      refine Agg.chMove rfl rfl rfl rfl ?_
                      refine Agg.chIA tiInt (by omega) (by omega) rfl rfl rfl rfl rfl ?_
                      refine Agg.chLoad rfl rfl rfl rfl (by decide +kernel) (by simp only [Int.toNat_natCast, Nat.mul_one]; exact hcl.out) ?_
                      refine Agg.chEq true d15 rfl rfl rfl rfl rfl ?_
                      refine Agg.chPick rfl rfl rfl rfl rfl ?_
                      refine Agg.chPick rfl rfl rfl rfl rfl ?_
                      refine Agg.chPick rfl rfl rfl rfl rfl ?_
                      refine Agg.chEnd ?_
                      intro vs w203 hb hf
                      simp only [List.reverse, List.reverseAux, Agg.Facts] at hf
                      obtain _ := hf
                      simp only [List.reverse, List.reverseAux, Agg.fill, List.set_cons_succ, List.set_cons_zero]
                      go_wp2_with fail
                      exact ⟨⟨j + 1, by omega, by go_num, by rw [HSU.out, hsome, h15, decide_eq_false hzm]; rfl, HB.out.trans (hb.mono HB.out.size)⟩, by simp [intOf]; omega⟩
                    · have d15 : (x0 == 15) = false := by simp [h15]
                      refine Agg.listR 19 (by kernel_rfl) ?_
                      simp only [List.take_succ_cons, List.take_zero, List.drop_succ_cons, List.drop_zero]
                      refine Agg.chMove rfl rfl rfl rfl ?_
                      refine Agg.chMove rfl rfl rfl rfl ?_
                      refine Agg.chMove rfl rfl rfl rfl ?_
                      refine Agg.chMove rfl rfl rfl rfl ?_
                      refine Agg.chGt false d4 rfl rfl rfl rfl rfl ?_
                      refine Agg.chMove rfl rfl rfl rfl ?_
                      refine Agg.chMove rfl rfl rfl rfl ?_
                      refine Agg.chMove rfl rfl rfl rfl ?_
                      refine Agg.chLen Try.underlying64 rfl rfl rfl rfl ?_
                      refine Agg.chLt true d9 rfl rfl rfl rfl rfl ?_
                      refine Agg.chMove rfl rfl rfl rfl ?_
                      refine Agg.chMove rfl rfl rfl rfl ?_
                      refine Agg.chMove rfl rfl rfl rfl ?_
                      refine Agg.chIA tiInt (by omega) (by omega) rfl rfl rfl rfl rfl ?_
                      refine Agg.chLoad rfl rfl rfl rfl (by decide +kernel) (by simp only [Int.toNat_natCast, Nat.mul_one]; exact hcl.out) ?_
                      refine Agg.chEq false d15 rfl rfl rfl rfl rfl ?_
                      refine Agg.chPick rfl rfl rfl rfl rfl ?_
                      refine Agg.chPick rfl rfl rfl rfl rfl ?_
                      refine Agg.chPick rfl rfl rfl rfl rfl ?_
                      refine Agg.chEnd ?_
                      intro vs w204 hb hf
                      simp only [List.reverse, List.reverseAux, Agg.Facts] at hf
                      obtain _ := hf
                      simp only [List.reverse, List.reverseAux, Agg.fill, List.set_cons_succ, List.set_cons_zero]
                      go_wp2_with fail
                      exact ⟨⟨j + 1, by omega, by go_num, by rw [HSU.out, hsome, decide_eq_false hzm, decide_eq_false (fun e => h15 (by injection e))]; rfl, HB.out.trans (hb.mono HB.out.size)⟩, by simp [intOf]; omega⟩
                  · have d9 : decide ((j : Int) < (k : Int)) = false := by simp; omega
                    have hnone : MS[j]? = none := List.getElem?_eq_none (by rw [HMSL.out]; omega)
                    refine Agg.listR 19 (by kernel_rfl) ?_
                    simp only [List.take_succ_cons, List.take_zero, List.drop_succ_cons, List.drop_zero]
                    refine Agg.chMove rfl rfl rfl rfl ?_
                    refine Agg.chMove rfl rfl rfl rfl ?_
                    refine Agg.chMove rfl rfl rfl rfl ?_
                    refine Agg.chMove rfl rfl rfl rfl ?_
                    refine Agg.chGt false d4 rfl rfl rfl rfl rfl ?_
                    refine Agg.chMove rfl rfl rfl rfl ?_
                    refine Agg.chMove rfl rfl rfl rfl ?_
                    refine Agg.chMove rfl rfl rfl rfl ?_
                    refine Agg.chLen Try.underlying64 rfl rfl rfl rfl ?_
                    refine Agg.chLt false d9 rfl rfl rfl rfl rfl ?_
                    refine Agg.chMove rfl rfl rfl rfl ?_
                    refine Agg.chSkip rfl rfl ?_
                    refine Agg.chSkip rfl rfl ?_
                    refine Agg.chSkip rfl rfl ?_
                    refine Agg.chSkip rfl rfl ?_
                    refine Agg.chSkip rfl rfl ?_
                    refine Agg.chPick rfl rfl rfl rfl rfl ?_
                    refine Agg.chPick rfl rfl rfl rfl rfl ?_
                    refine Agg.chPick rfl rfl rfl rfl rfl ?_
                    refine Agg.chEnd ?_
                    intro vs w205 hb hf
                    simp only [List.reverse, List.reverseAux, Agg.Facts] at hf
                    obtain _ := hf
                    simp only [List.reverse, List.reverseAux, Agg.fill, List.set_cons_succ, List.set_cons_zero]
                    go_wp2_with fail
                    exact ⟨⟨j + 1, by omega, by go_num, by rw [HSU.out, hnone, decide_eq_false hzm]; rfl, HB.out.trans (hb.mono HB.out.size)⟩, by simp [intOf]; omega⟩
            · obtain rfl : m = j := by omega
              clear hmsf
              have hE0 : cmB z m MS m = cameB z m MS := rfl
              obtain ⟨E, hE⟩ : ∃ E, (if cameB z (mG B) MS = true then (R.2.1 ++ [B], R.2.2.1 + mG B, R.2.2.2 + mG B) else (R.2.1, R.2.2.1, R.2.2.2)) = E := ⟨_, rfl⟩
              have hca := crash_all HFD.out HSA.out hA2 HRE.out HBN.out (gs2 := gs2.take 6) (by rw [HRP.out.2.1, HME.out]; exact hfit) HMK.out (show backD R.1 R.2.2.1 (R.2.2.2 + 1) B z MS = Bk by rw [HRP.out.2.1, HRP.out.2.2, HST.out.1]; exact HBK.out) HFB.out hE
              rw [HRP.out.1, HRP.out.2.1, HRP.out.2.2, HME.out, ← hE0] at hE
              have HE := Lib.hid hE
              obtain ⟨hc1, hc2, hc3, hc4, hc5⟩ := hca
              have HRB := Lib.hid (fun W v g h1 h2 => replays_any Bk A E.1 E.2.1 E.2.2 v g W HFB.out.good (by rw [HFB.out.cache]; decide) h1 (by omega) h2 (by omega) (by omega) true (by
                rw [decide_eq_true_eq]; exact ⟨fresh_ask HFB.out, hc1⟩))
              obtain ⟨G2, hG2⟩ : ∃ G, grB Bk.pages = G := ⟨_, rfl⟩
              have HFI := Lib.hid (fun W v g h0 h1 h2 => filledX_any Bk E.2.1 E.2.2 G2 (gs2.take 6) v g w W h0 HFB.out h1 h2 hc2 hG2 (by rw [← hG2]; omega))
              rw [hG2] at hc5
              obtain ⟨R2, hR2⟩ : ∃ R2, filP (gs2.take 6) Bk E.2.1 E.2.2 (max G2 E.2.2 + 1) = R2 := ⟨_, rfl⟩
              obtain ⟨hf2, hr2⟩ := hc5 R2 hR2
              rw [hR2] at HFI
              have hf2p := hf2.le.2
              have hf2b := hf2.bound
              rw [← hG2] at hf2b
              have HRC := Lib.hid (fun W v g h1 h2 => replays_any R2.1 A (E.1 ++ R2.2.1) R2.2.2.1 R2.2.2.2 v g W hf2.fresh.good (by rw [hf2.fresh.cache]; decide) h1 (by omega) h2 (by omega) (by omega) true (by
                rw [decide_eq_true_eq]; exact ⟨fresh_ask hf2.fresh, hr2⟩))
              have hl16 : l1.length ≤ 16 := by
                have h1 := HR1.out.len
                have h2 := HR1.out.le.2
                rw [HRP.out.1] at h1
                omega
              have hEl : E.1.length ≤ 17 := by
                rw [← hE]
                split
                · show (l1 ++ [B]).length ≤ 17
                  rw [List.length_append, List.length_singleton]; omega
                · show l1.length ≤ 17
                  omega
              have HR2L : Hid (R2.2.1.length ≤ 16) := Lib.hid (by have := hf2.len; omega)
              have HEL := Lib.hid hEl
              clear hE hE0 hc1 hc2 hc3 hc4 hc5 hG2 hR2 hf2 hr2 hf2p hf2b hEl
              obtain ⟨q2, hq2⟩ : ∃ q, cmB z m MS m = q := ⟨_, rfl⟩
              rw [hq2] at HE ⊢
              clear hq2
              have hbl := HB.out
              clear HB
              have HB := Lib.hid (HBF.out.trans (hbl.mono HBF.out.size))
              have H17 := Lib.hid (H17F.out.keep hbl)
              have HG1 := Lib.hid (HG1F.out.keep hbl)
              have HX : Hid (Bw wB wL) := Lib.hid (Bw.keep HXF.out hbl)
              have HBO := Lib.hid (World.ownsRow.keep HBOF.out hbl)
              have HVX := Lib.hid (HVXF.out.keep hbl)
              have H24 := Lib.hid (H24F.out.keep hbl)
              have HZE : Hid (wE.heap.size ≤ wL.heap.size) := Lib.hid (Nat.le_trans (Below.size HXEF.out) hbl.size)
              clear HBF H17F HG1F HXF HBOF HXEF HMSF HVXF H24F hbl
              go_upto_if 173 with (fail)
              go_cut [16] from 173 to 188 (fun s wx => ∃ x c, s = .slice x E.1.length c ∧ OutK wB wB.heap.size wx (.slice x E.1.length c) E.1 ∧ Blk wx g9 33 [.int .i64 (E.2.1 : Int), .int .u64 (E.2.2 : Int)] ∧ Blk wx g24 28 [.slice px6 Bk.pages.length pc6, .slice cx6 Bk.cache.length cc6, .int .i64 Bk.fuse, .bool Bk.off] ∧ DevX w wE.heap.size Bk (.agg #[.slice px6 Bk.pages.length pc6, .slice cx6 Bk.cache.length cc6, .int .i64 Bk.fuse, .bool Bk.off]) wx ∧ Bw wB wx ∧ Below w.heap.size w wx ∧ wE.heap.size ≤ wx.heap.size)
              case first =>
                have HXL : Hid (Bw wL wL) := Lib.hid (Below.refl _ _)
                by_cases hq : q2 = false
                · subst hq
                  have he := HE.out
                  rw [if_neg (by decide)] at he
                  subst he
                  go_wp2_with fail
                  go_meet
                  exact ⟨_, _, rfl, HG1.out, H17.out, H24.out, HVX.out, HX.out, HB.out, HZE.out⟩
                · obtain rfl : q2 = true := by simpa using hq
                  have he := HE.out
                  rw [if_pos rfl] at he
                  subst he
                  have hl2 := HEL.out
                  rw [List.length_append, List.length_singleton] at hl2
                  go_wp2_with fail
                  refine (cloneG_any l1 _ wB wB.heap.size wL HG1.out (Below.size HX.out) (by omega)).mono ?_
                  rintro e w241 ⟨v, rfl, hv, hb⟩
                  replace HB := Lib.hid (HB.out.trans (hb.mono HB.out.size))
                  replace H17 := Lib.hid (H17.out.keep hb)
                  replace HG1 := Lib.hid (HG1.out.keep hb)
                  replace HX := Lib.hid (HX.out.keep hb)
                  replace HBO := Lib.hid (HBO.out.keep hb)
                  replace HVX := Lib.hid (HVX.out.keep hb)
                  replace H24 := Lib.hid (H24.out.keep hb)
                  replace HXL := Lib.hid (HXL.out.keep hb)
                  clear hb
                  have HK := Lib.hid hv
                  obtain ⟨kx, kc, rfl⟩ := HK.out.shape
                  clear hv HG1
                  have hbA : Below w241.heap.size w241 (w241.alloc (.cells #[.slice x2 bn c2] 37)) := (Below.refl _ _).alloc (Nat.le_refl _) _
                  obtain ⟨vs, hvo, hvl, hve⟩ := HK.out
                  have HC3 := Lib.hid (own_keep hvo hbA)
                  have HSL : Hid (SlR (w241.alloc (.cells #[.slice x2 bn c2] 37)) (.slice (some ⟨w241.heap.size, 0, none⟩) 1 1) 1 1 [.slice x2 bn c2]) := Lib.hid (NewSl.sl (b0 := 0) (e := 37) ⟨_, rfl, Nat.zero_le _, Blk.new w241 37 #[.slice x2 bn c2]⟩ rfl (by unfold maxLen; decide))
                  have h17A := H17.out.keep hbA
                  have h24A := H24.out.keep hbA
                  have hvxA := HVX.out.keep hbA
                  have hboA := World.ownsRow.keep HBO.out hbA
                  have hvlA := fun i v g hv hg => (hve i v g hv hg).imp id (fun h => World.ownsRow.keep h hbA)
                  have hxA := Bw.keep HX.out hbA
                  have hbwA := HB.out.trans (hbA.mono HB.out.size)
                  have hzeA := Nat.le_trans (Nat.le_trans HZE.out (Below.size HXL.out)) hbA.size
                  have hone : ∀ u ∈ [Value.slice x2 bn c2], u.oneCell' = true := by simp [Value.oneCell']
                  have hc3 := HC3.out
                  have hsl := HSL.out
                  have hszA := Below.size hxA
                  have HKV := Lib.hid (And.intro hvl hvlA)
                  have H17A := Lib.hid h17A
                  have H24A := Lib.hid h24A
                  have HVXA := Lib.hid hvxA
                  have HBOA := Lib.hid hboA
                  have HXA := Lib.hid hxA
                  have HBWA := Lib.hid hbwA
                  have HZEA := Lib.hid hzeA
                  clear hvo hvl hve hvlA h17A h24A hvxA hboA hxA hbwA hzeA hbA HK HX HBO HVX H24 HXL H17 HB HC3 HSL
                  go_upto_region 37 with (first
                    | (refine Agg.append2 tiGG _ _ rfl rfl wB.heap.size rfl hc3 rfl hsl hone (by unfold maxLen; omega) (by omega) hszA ?_; intro v4 w4 ho4 hg4 _; obtain ⟨x4, c4, rfl, _, _⟩ := (ownSl ho4).shape; simp only [Act.put, List.setIfInBounds_toArray, List.set_cons_succ, List.set_cons_zero]))
                  have h174 := blk_row H17A.out hg4 (own_apart hc3 H17A.out (by decide))
                  have H244 := Lib.hid (blk_row H24A.out hg4 (own_apart hc3 H24A.out (by decide)))
                  have HVX4 : Hid (DevX w wE.heap.size Bk (.agg #[.slice px6 Bk.pages.length pc6, .slice cx6 Bk.cache.length cc6, .int .i64 Bk.fuse, .bool Bk.off]) w4) := Lib.hid (HVXA.out.imp id (fun h => devO_own h hg4 hc3))
                  have hob4 := own_block hc3
                  have HX4 : Hid (Bw wB w4) := Lib.hid (Below.trans HXA.out (grown_below hg4 (Below.size HXA.out) (fun j e => hob4 j e)))
                  have HB4 : Hid (Below w.heap.size w w4) := Lib.hid (HBWA.out.trans (grown_below hg4 HBWA.out.size (fun j e => Nat.le_trans HWB.out (hob4 j e))))
                  have HZE4 := Lib.hid (Nat.le_trans HZEA.out hg4.size)
                  have hB4 := (congrArg (fun q => World.ownsRow (w241.alloc (.cells #[.slice x2 bn c2] 37)) wB.heap.size 5 1 (.slice x2 bn c2) q (bv B)) HBL.out).mpr HBOA.out
                  have e5 : (l1 ++ [B]).length = l1.length + 1 := by rw [List.length_append, List.length_singleton]
                  have HE5 := Lib.hid e5
                  rw [← e5] at ho4
                  have HK4 := Lib.hid (OutK.snoc (w0 := wB) (b := wB.heap.size) (gs := l1) (vs := vs) (v := .slice x2 bn c2) (B := B) HKV.out.1 HKV.out.2 hB4 ho4 (fun x n xs h => World.ownsRow.kept h hg4 (own_own h hc3 (by decide))))
                  clear hB4 e5
                  clear ho4 hg4 hc3 hsl hone hszA hob4 HKV H17A H24A HVXA HBOA HXA HBWA HZEA
                  have hst1 : la + 1 = st := HST.out.1
                  have hstb : st ≤ 1152921504606846993 := by omega
                  have c4' := h174.cell 0
                  simp only [List.getElem?_cons_zero] at c4'
                  have hu1 : IntKind.u64.wrap (m : Int) = (m : Int) := u64_small (by omega) (by omega)
                  go_wp2_with (refine Agg.gStoreB 2 [.int .i64 ((p : Int) + (m : Int)), .int .u64 ((st : Int) + (m : Int) - 1)] h174 rfl rfl rfl rfl rfl (by decide +kernel) rfl rfl (by simp [Value.oneCell']) (fun w6 hb6 hg6 => ?_))
                  have e1 : (p : Int) + (m : Int) = ((p + m : Nat) : Int) := by omega
                  have e2 : (st : Int) + (m : Int) - 1 = ((la + m : Nat) : Int) := by omega
                  rw [e1, e2] at hb6
                  have hgn := HGN.out
                  have HS6 : Hid (Blk w6 g9 33 [.int .i64 ((p + m : Nat) : Int), .int .u64 ((la + m : Nat) : Int)]) := Lib.hid hb6
                  have H246 := Lib.hid (H244.out.far' hg6 (blk_ne H244.out h174 (by decide)))
                  have HVX6 := Lib.hid (DevX.far HVX4.out h174 (by decide) (by decide) hg6)
                  have HX6 : Hid (Bw wB w6) := Lib.hid (Bw.grown HX4.out hg6 (by omega))
                  have HB6 := Lib.hid (HB4.out.trans (grown_below hg6 HB4.out.size (fun j e => by cases e; omega)))
                  have HZE6 := Lib.hid (Nat.le_trans HZE4.out hg6.size)
                  have HK6 := Lib.hid (OutK.far HK4.out h174 (by decide) (by decide) hg6)
                  clear h174 hb6 hg6 e1 e2 c4' HK4 HZE4 HB4 HX4 HVX4 H244
                  go_wp2_with fail
                  go_meet
                  exact ⟨x4, c4, by rw [HE5.out], HK6.out, HS6.out, H246.out, HVX6.out, HX6.out, HB6.out, HZE6.out⟩
              case rest =>
                obtain ⟨x16, c16, rfl, hk1, hk2, hk3, hk4, hk5, hk6, hk7⟩ := hcut
                have HG1 := Lib.hid hk1
                have H17 := Lib.hid hk2
                have H24 := Lib.hid hk3
                have HVX := Lib.hid hk4
                have HX := Lib.hid hk5
                have HB := Lib.hid hk6
                have HZE := Lib.hid hk7
                clear hk1 hk2 hk3 hk4 hk5 hk6 hk7
                have HXC : Hid (Bw wc wc) := Lib.hid (Below.refl _ _)
                go_upto_region 38 with (fail)
                refine Agg.listR 6 (by kernel_rfl) ?_
                simp only [List.take_succ_cons, List.take_zero, List.drop_succ_cons, List.drop_zero]
                refine Agg.chRowB 4 H24.out rfl (by decide +kernel) rfl rfl rfl rfl ?_
                refine Agg.chMove rfl rfl rfl rfl ?_
                refine Agg.chMove rfl rfl rfl rfl ?_
                refine Agg.chRowB 2 H17.out rfl (by decide +kernel) rfl rfl rfl rfl ?_
                refine Agg.chCall Try.func27 rfl (by kernel_rfl) rfl rfl rfl rfl (fun W hb => HRB.out W _ _ (DevX.read (DevX.keep HVX.out hb) (HB.out.trans (hb.mono HB.out.size))) (OutK.rows (OutK.keep HG1.out hb) (Bw.keep HX.out hb))) ?_
                refine Agg.chNot rfl rfl rfl rfl ?_
                refine Agg.chEnd ?_
                intro vs w261 hb _
                show Exit.then _ _ Exit.normal _ _
                simp only [List.reverse, List.reverseAux, Agg.fill, List.set_cons_succ, List.set_cons_zero]
                replace HB := Lib.hid (HB.out.trans (hb.mono HB.out.size))
                replace HG1 := Lib.hid (HG1.out.keep hb)
                replace H17 := Lib.hid (H17.out.keep hb)
                replace H24 := Lib.hid (H24.out.keep hb)
                replace HVX := Lib.hid (HVX.out.keep hb)
                replace HX := Lib.hid (HX.out.keep hb)
                replace HXC := Lib.hid (HXC.out.keep hb)
                clear hb
                clear HRB
                have HZE2 := Lib.hid (Nat.le_trans HZE.out (Below.size HXC.out))
                obtain ⟨tx, tc, rfl, htc, htm⟩ := rows2_shape HTV.out
                unfold maxLen at htm
                obtain ⟨n2, hn2⟩ : ∃ n, min gs2.length 6 = n := ⟨_, rfl⟩
                have HMI2 : Hid (min (gs2.length : Int) 6 = (n2 : Int)) := Lib.hid (by omega)
                have hng2 : n2 ≤ gs2.length := by omega
                have HTK2 : Hid (gs2.take 6 = gs2.take n2) := Lib.hid (by rw [← hn2, Nat.min_comm, ← List.take_take, List.take_length])
                clear hn2
                go_upto_region 40 with (fail)
                refine Agg.chainR 14 (by kernel_rfl) (by kernel_rfl) ?_
                simp only [List.take_succ_cons, List.take_zero, List.drop_succ_cons, List.drop_zero]
                refine Agg.chRowB 4 H24.out rfl (by decide +kernel) rfl rfl rfl rfl ?_
                refine Agg.chRowB 2 H17.out rfl (by decide +kernel) rfl rfl rfl rfl ?_
                refine Agg.chMove rfl rfl rfl rfl ?_
                refine Agg.chMove rfl rfl rfl rfl ?_
                refine Agg.chLen Try.underlying31 rfl rfl rfl rfl ?_
                refine Agg.chMin2 (n2 : Int) HMI2.out rfl rfl rfl rfl rfl ?_
                refine Agg.chSlice none (some (.int .i64 (n2 : Int))) none rfl rfl rfl rfl rfl rfl rfl rfl (fun W => run_slice_upto tiGG tx gs2.length tc n2 (by omega) W) ?_
                refine Agg.chCallG Try.func26 rfl (by kernel_rfl) (FilT w wE.heap.size R2) (FilT.stable _ _ R2) rfl rfl rfl rfl (fun W hb => Calls.mono (HFI.out W _ _ (HB.out.trans (hb.mono HB.out.size)) (DevX.read (DevX.keep HVX.out hb) (HB.out.trans (hb.mono HB.out.size))) (by rw [HTK2.out]; exact rows2_take HTV.out n2 hng2)) (fun e w2 h => filT_ret (Nat.le_trans HZE2.out hb.size) (DevX.keep HVX.out hb) h)) ?_
                refine Agg.chMoveO 7 (FilT.stable _ _ R2) rfl rfl rfl rfl rfl rfl ?_
                refine Agg.chExtractO 8 (DevX.stable _ _ _) FilT.c0 rfl rfl rfl rfl rfl rfl ?_
                refine Agg.chExtractO 8 (RowsV.stable _ _ _) FilT.c1 rfl rfl rfl rfl rfl rfl ?_
                refine Agg.chExtractO 8 (EqV.stable _) FilT.c2 rfl rfl rfl rfl rfl rfl ?_
                refine Agg.chExtractO 8 (EqV.stable _) FilT.c3 rfl rfl rfl rfl rfl rfl ?_
                refine Agg.chAlloc #[.int .i64 0, .int .u64 0] rfl (by kernel_rfl) rfl rfl ?_
                refine Agg.chEnd ?_
                intro vs w262 hb hf
                simp only [List.reverse, List.reverseAux, Agg.Facts] at hf
                obtain ⟨_, _, h10, h11, hv12, hv13, ⟨g29, hv14, hg29, hb29⟩, _⟩ := hf
                simp only [List.reverse, List.reverseAux, Agg.fill, List.set_cons_succ, List.set_cons_zero, hv12, hv13, hv14]
                obtain ⟨px9, pc9, cx9, cc9, hv10⟩ := DevX.shape h10
                obtain ⟨gx9, gc9, hv11⟩ := OutI.shape h11
                rw [hv10] at h10
                rw [hv11] at h11
                simp only [hv10, hv11]
                have hlt24 := H24.out.lt
                have h24 := H24.out.keep hb
                have hbA := HB.out.trans (hb.mono HB.out.size)
                have hg1 := OutK.keep HG1.out hb
                have hxA := Bw.keep HX.out hb
                have hszB := HB.out.size
                have hszX := Below.size HX.out
                refine Agg.tStore 4 (cs := [.slice px9 R2.1.pages.length pc9, .slice cx9 R2.1.cache.length cc9, .int .i64 R2.1.fuse, .bool R2.1.off]) h24 rfl rfl rfl rfl rfl (by decide +kernel) rfl rfl (by simp [Value.oneCell']) (fun w80 hb80 hg80 => ?_)
                refine Agg.tAssign rfl rfl rfl ?_
                simp only [Agg.ev, List.getD_cons_zero, List.getD_cons_succ, List.set_cons_succ, List.set_cons_zero]
                refine Agg.tStore 2 (cs := [.int .i64 (R2.2.2.1 : Int), .int .u64 (R2.2.2.2 : Int)]) (hb29.far' hg80 (by omega)) rfl rfl rfl rfl rfl (by decide +kernel) rfl rfl (by simp [Value.oneCell']) (fun w81 hb81 hg81 => ?_)
                refine Agg.tAssign rfl rfl rfl ?_
                simp only [Agg.ev, List.getD_cons_zero, List.getD_cons_succ, List.set_cons_succ, List.set_cons_zero]
                refine Agg.wpNil ?_
                have h29 := hb29.far' hg80 (show g29 ≠ g24 by omega)
                have H24N := Lib.hid (hb80.far' hg81 (show g24 ≠ g29 by omega))
                have H29 := Lib.hid hb81
                have HX2 : Hid (Bw wB w81) := Lib.hid (Bw.grown (Bw.grown hxA hg80 hsX) hg81 (by omega))
                have HB2 := Lib.hid ((hbA.trans (grown_below hg80 hbA.size (fun j hj => by cases hj; omega))).trans (grown_below hg81 (Nat.le_trans hbA.size hg80.size) (fun j hj => by cases hj; omega)))
                have HDX2 := Lib.hid (DevX.far (DevX.far h10 h24 (by decide) (by decide) hg80) h29 (by decide) (by decide) hg81)
                have HOI2 := Lib.hid (OutI.far (OutI.far h11 h24 (by decide) hg80) h29 (by decide) hg81)
                have HGK2 := Lib.hid (OutK.far (OutK.far hg1 h24 (by decide) (by decide) hg80) h29 (by decide) (by decide) hg81)
                clear hb hv10 hv11 hv12 hv13 hv14 hb29 hb80 hb81 hg80 hg81 h29 hxA hbA h24 h10 h11 hg1 HG1 H17 H24 HVX HX HXC HB HFI hlt24 hszB hszX hg29
                have HB := HB2
                clear HB2
                go_upto_region 41 with (fail)
                refine Agg.heldBegin (S := fun W => Blk W g24 28 [.slice px9 R2.1.pages.length pc9, .slice cx9 R2.1.cache.length cc9, .int .i64 R2.1.fuse, .bool R2.1.off] ∧ Blk W g29 33 [.int .i64 (R2.2.2.1 : Int), .int .u64 (R2.2.2.2 : Int)]) 12 (by kernel_rfl) rfl ?_
                have hb0 : Below w81.heap.size w81 w81.drew := bel_drew (Below.refl _ _)
                have HDX3 := Lib.hid (DevX.keep HDX2.out hb0)
                have HOI3 := Lib.hid (OutI.keep HOI2.out hb0)
                have HGK3 := Lib.hid (OutK.keep HGK2.out hb0)
                have HX3 : Hid (Bw wB w81.drew) := Lib.hid (Bw.keep HX2.out hb0)
                have hz1 := H24N.out.keep hb0
                have hz2' := H29.out.keep hb0
                have HB3 := Lib.hid (HB.out.trans (hb0.mono HB.out.size))
                clear hb0 HDX2 HOI2 HGK2 HX2 H24N H29 HB
                generalize w81.drew = z0 at *
                simp only [List.replicate_succ, List.replicate_zero]
                have hz0 := And.intro hz1 hz2'
                refine Agg.heldTake (i := 0) (by decide +kernel) rfl rfl rfl (v := .bool true) (fun W hW => Agg.run_move rfl rfl) hz0 ?_
                simp only [List.set_cons_succ, List.set_cons_zero]
                refine Agg.heldTake (i := 1) (by decide +kernel) rfl rfl rfl (v := .bool true) (fun W hW => Agg.run_move rfl rfl) hz0 ?_
                simp only [List.set_cons_succ, List.set_cons_zero]
                refine Agg.heldTakeG (i := 2) (by decide +kernel) rfl (Agg.wy rfl rfl) rfl (v := .agg #[.slice px9 R2.1.pages.length pc9, .slice cx9 R2.1.cache.length cc9, .int .i64 R2.1.fuse, .bool R2.1.off]) (fun W hW => Agg.run_rowB 0 4 _ hW.1 rfl rfl (by decide +kernel) rfl rfl) hz0 ?_
                simp only [List.set_cons_succ, List.set_cons_zero]
                refine Agg.heldTakeG (i := 3) (by decide +kernel) rfl (Agg.wy rfl rfl) rfl (v := .int .u64 (A : Int)) (fun W hW => Agg.run_move rfl rfl) hz0 ?_
                simp only [List.set_cons_succ, List.set_cons_zero]
                refine Agg.heldTakeG (i := 4) (by decide +kernel) rfl (Agg.wy rfl rfl) rfl (v := .slice x16 E.1.length c16) (fun W hW => Agg.run_move rfl rfl) hz0 ?_
                simp only [List.set_cons_succ, List.set_cons_zero]
                refine Agg.heldTakeG (i := 6) (by decide +kernel) rfl (Agg.wy rfl rfl) rfl (v := .slice gx9 R2.2.1.length gc9) (fun W hW => Agg.run_move rfl rfl) hz0 ?_
                simp only [List.set_cons_succ, List.set_cons_zero]
                refine Agg.heldTakeG (i := 8) (by decide +kernel) rfl (Agg.wy rfl rfl) rfl (v := .agg #[.int .i64 (R2.2.2.1 : Int), .int .u64 (R2.2.2.2 : Int)]) (fun W hW => Agg.run_rowB 0 2 _ hW.2 rfl rfl (by decide +kernel) rfl rfl) hz0 ?_
                simp only [List.set_cons_succ, List.set_cons_zero]
                refine Agg.heldCallG Try.func30 rfl rfl (i := 5) (args := [.tmp 212]) (by decide +kernel) rfl (Agg.wy rfl rfl) rfl rfl ((cloneG_any E.1 (.slice x16 E.1.length c16) wB wB.heap.size z0 HGK3.out (Below.size HX3.out) (by have := HEL.out; omega)).mono ?_)
                rintro e z4 ⟨v, rfl, hv, hb4⟩
                obtain ⟨kx, kc, rfl⟩ := OutK.shape hv
                have hz4 := And.intro (hz1.keep hb4) (hz2'.keep hb4)
                refine ⟨_, rfl, hz4, ?_⟩
                simp only [List.set_cons_succ, List.set_cons_zero]
                have HDX4 := Lib.hid (DevX.keep HDX3.out hb4)
                have HX4 : Hid (Bw wB z4) := Lib.hid (Bw.keep HX3.out hb4)
                have HB4 := Lib.hid (HB3.out.trans (hb4.mono HB3.out.size))
                obtain ⟨vs, hvo, hvl, hve⟩ := hv
                obtain ⟨vs2, hwo, hwl, hwe⟩ := OutI.keep HOI3.out hb4
                have hone := OutI.one hwl hwe
                have hsl := ownSl hwo
                have hel := HEL.out
                have hrl := HR2L.out
                have hsz4 := Below.size HX4.out
                clear hb4 HDX3 HOI3 HGK3 HX3 HB3 hwo
                refine Agg.heldAppendG tiGG (.tmp 213) (.tmp 214) (i := 7) (by decide +kernel) rfl (Agg.wy rfl rfl) rfl rfl wB.heap.size (v := .slice kx E.1.length kc) rfl hvo rfl hsl hone (by unfold maxLen; omega) (by omega) hsz4
                  (fun v5 w5 hC5 hg5 _ => ⟨⟨blk_row hz4.1 hg5 (own_apart hvo hz4.1 (by decide)), blk_row hz4.2 hg5 (own_apart hvo hz4.2 (by decide))⟩, ?_⟩)
                simp only [List.set_cons_succ, List.set_cons_zero]
                have hz5 := And.intro (blk_row hz4.1 hg5 (own_apart hvo hz4.1 (by decide))) (blk_row hz4.2 hg5 (own_apart hvo hz4.2 (by decide)))
                have hob5 := own_block hvo
                have hdx5 : DevX w wE.heap.size R2.1 (.agg #[.slice px9 R2.1.pages.length pc9, .slice cx9 R2.1.cache.length cc9, .int .i64 R2.1.fuse, .bool R2.1.off]) w5 := HDX4.out.imp id (fun h => devO_own h hg5 hvo)
                have hbx5 : Bw wB w5 := Below.trans HX4.out (grown_below hg5 hsz4 (fun j e => hob5 j e))
                have hbw5 : Below w.heap.size w w5 := HB4.out.trans (grown_below hg5 HB4.out.size (fun j e => Nat.le_trans HWB.out (hob5 j e)))
                have hrw5 := app_rows hvl hve hwl hwe hC5 (fun x n xs h => World.ownsRow.kept h hg5 (own_own h hvo (by decide))) hbx5 hbw5
                refine Agg.heldCallG Try.func27 rfl rfl (i := 9) (args := [.tmp 210, .tmp 211, .tmp 215, .tmp 216]) (by decide +kernel) rfl (Agg.wy rfl rfl) rfl rfl ((HRC.out w5 (.agg #[.slice px9 R2.1.pages.length pc9, .slice cx9 R2.1.cache.length cc9, .int .i64 R2.1.fuse, .bool R2.1.off]) v5 (DevX.read hdx5 hbw5) hrw5).mono ?_)
                rintro e z6 ⟨rfl, hb6⟩
                have hz6 := And.intro (hz5.1.keep hb6) (hz5.2.keep hb6)
                have HB6 := Lib.hid (hbw5.trans (hb6.mono hbw5.size))
                refine ⟨_, rfl, hz6, ?_⟩
                simp only [List.set_cons_succ, List.set_cons_zero]
                refine Agg.heldOne (i := 10) (by decide +kernel) rfl rfl rfl (v := .bool true) (w' := z6) (Agg.run_pickT rfl rfl rfl) hz6 ?_
                simp only [List.set_cons_succ, List.set_cons_zero]
                refine Agg.heldOne (i := 11) (by decide +kernel) rfl rfl rfl (v := .bool true) (w' := z6) (Agg.run_assign rfl rfl) hz6 ?_
                simp only [List.set_cons_succ, List.set_cons_zero]
                refine Agg.heldDone (by decide +kernel) ?_
                clear hz6 hz5 hz4 hz0 hz1 hz2' hrw5 hbw5 hbx5 hdx5 hob5 hC5 hg5 hvo hvl hve hwl hwe hone hsl
                go_wp2_with fail
                go_ret
                exact ⟨rfl, HB6.out⟩
  · skip
    have d1 : decide ((m : Int) > 16 - (p : Int)) = true := by simp; omega
    refine Agg.listR 9 (by kernel_rfl) ?_
    simp only [List.take_succ_cons, List.take_zero, List.drop_succ_cons, List.drop_zero]
    refine Agg.chMove rfl rfl rfl rfl ?_
    refine Agg.chNot rfl rfl rfl rfl ?_
    refine Agg.chMove rfl rfl rfl rfl ?_
    refine Agg.chMove rfl rfl rfl rfl ?_
    refine Agg.chFA (by first | exact fo_Lo_0 | exact fo_fo_Dev_0) rfl rfl rfl rfl ?_
    refine Agg.chLoadB H17.out (by decide +kernel) rfl rfl (by rfl) rfl rfl ?_
    refine Agg.chAr64 rfl rfl rfl rfl (by omega) (by omega) rfl rfl ?_
    refine Agg.chGt true d1 rfl rfl rfl rfl rfl ?_
    refine Agg.chPick rfl rfl rfl rfl rfl ?_
    refine Agg.chEnd ?_
    intro vs w281 hb _
    show Exit.then _ _ Exit.normal _ _
    simp only [List.reverse, List.reverseAux, Agg.fill, List.set_cons_succ, List.set_cons_zero]
    replace HB := Lib.hid (HB.out.trans (hb.mono HB.out.size))
    replace H13 := Lib.hid (H13.out.keep hb)
    replace H17 := Lib.hid (H17.out.keep hb)
    replace HDX := Lib.hid (HDX.out.keep hb)
    replace HG1 := Lib.hid (HG1.out.keep hb)
    replace HX := Lib.hid (HX.out.keep hb)
    replace HBO := Lib.hid (HBO.out.keep hb)
    clear hb
    go_wp2_with fail
    go_ret
    exact ⟨rfl, HB.out⟩
theorem LogCrash_walk (v0 : Value) (f0 : Nat) (v1 : Value) (gs : List (List UInt8)) (v2 : Value) (lst : List UInt8) (n3 : Int) (v4 : Value) (f4 : Nat) (v5 : Value) (gs2 : List (List UInt8)) (w : World) (g0 : Agg.Good Try.prog w f0 25 [v0]) (y1 : Rows2 w v1 gs) (_m1 : ∀ l ∈ gs, l.length ≤ maxLen)
    (y2 : Bytes w v2 lst) (_m2 : lst.length ≤ maxLen) (w3 : (Lit.int .i64 n3).wf = true) (g4 : Agg.Good Try.prog w f4 64 [v4]) (y5 : Rows2 w v5 gs2) (_m5 : ∀ l ∈ gs2, l.length ≤ maxLen) :
    Calls Try.prog 8 #[v0, v1, v2, .int .i64 n3, v4, v5] w fun e w' => e = .returned (.bool true) ∧ Below w.heap.size w w' := by
  obtain ⟨old, h1, h2, h3⟩ := good_blks g0
  obtain ⟨mk, h4, _, _⟩ := good_ints g4
  have hw : -9223372036854775808 ≤ n3 ∧ n3 ≤ 9223372036854775807 := by simp [Lit.wf, IntKind.min, IntKind.max, IntKind.signed, IntKind.bits] at w3; exact ⟨by omega, by omega⟩
  exact crash_walk old gs gs2 lst n3 mk v0 v1 v2 v4 v5 w h2 h3 h1 y1 y2 h4 hw.1 hw.2 y5
end Go.Proofs.Ytlddjcilbpcciaa
