/-
  THE LOG: the document's Replay.
-/
import Derived.Test.YtlddjcilbpcciaaLi2
namespace Lg
open Go Go.RowKit Agg
theorem results_tc {P : Program} {fn : Func} {p u : Tmp} {ty : TypeId} (h : fn.results = #[.tmp u, .cell p ty]) {tmps : Array Value} {w : World} {m g : Nat} {T : TypeId} {cs : List Value} (H : Blk w g T cs) (hp : tmps.getD p undef = .pointer (some ⟨g, 0, none⟩)) (ht : aggT P ty m = true) (hm : cs.length = m) :
    (results fn tmps).run P w = .ok (.tuple #[tmps.getD u undef, .agg cs.toArray]) w := by
  have hp' : tmps[p]?.getD undef = .pointer (some ⟨g, 0, none⟩) := by simpa using hp
  simp [results, h, hp', asAddr, run_row H ht hm]
end Lg
namespace Go.Proofs.Ytlddjcilbpcciaa
open Go.ChangeShapes Go.WideShapes Go.ChangeAt Go.RowKit Agg Pg Dv Lg
attribute [local go_sem] Oper.semAt_some

def slN : Value → Nat
  | .slice _ n _ => n
  | _ => 0
set_option maxHeartbeats 4000000 in
set_option maxRecDepth 100000 in
theorem rReplay_any (d : Dev) (after : Nat) (dv : Value) (w : World) (hd : DGood d) (hc : d.cache.length ≤ 1000000) (hr : rightD d = true) (hD : DevR w dv d) (ha : after < 18446744073709551616) :
    Calls Try.prog 16 #[dv, .int .u64 (after : Int)] w fun e w' => ∃ u, e = .returned (.tuple #[u, .agg #[.int .i64 ((repG (atL d) 0 after).2.1 : Int), .int .u64 ((repG (atL d) 0 after).2.2 : Int)]]) ∧ GrpO w' w.heap.size u (repG (atL d) 0 after).1 ∧ Below w.heap.size w w' := by
  obtain ⟨px, cx, pc, cc, rfl, _, _⟩ := id hD
  have HGP := Lib.hid (fun W v (h : DevR W v d) p l hp hl m hm => rGroup_any d p l v W hd hc hr h hp hl m hm)
  have hfo := fun i => atL_bok hd i
  obtain ⟨f, hf⟩ : ∃ f, atL d = f := ⟨_, rfl⟩
  rw [hf] at HGP hfo
  rw [hf]
  have HFO : Hid (∀ i, BOk (f i)) := Lib.hid hfo
  have hll := repG_le (f := f) (p := 0) (last := after) (by omega) hfo
  obtain ⟨R, hR⟩ : ∃ R, repG f 0 after = R := ⟨_, rfl⟩
  rw [hR] at hll
  rw [hR]
  have HRR := Lib.hid hR
  have HD := Lib.hid hD
  have HD0 := HD
  clear hd hc hr hD hf hfo hR
  have HB := Lib.hid (Below.refl w.heap.size w)
  go_enter Try.func16, Try.ntmps16
  go_upto_region 1 with (refine Agg.allocRow 33 #[.int .i64 0, .int .u64 0] rfl rfl (by kernel_rfl) ?_; simp only [Act.put, List.setIfInBounds_toArray, List.set_cons_succ, List.set_cons_zero])
  refine Agg.wp_at fun w1 hw1 => ?_
  have hb : Below w.heap.size w w1 := by rw [hw1.out]; repeat (first | exact Below.refl _ _ | refine Agg.bel_drew ?_ | refine Agg.bel_alloc ?_ _)
  replace HB := Lib.hid (HB.out.trans (hb.mono HB.out.size))
  replace HD := Lib.hid (HD.out.keep hb)
  clear hb
  have H2 : Hid (Blk w1 w.heap.size 28 [.slice px d.pages.length pc, .slice cx d.cache.length cc, .int .i64 d.fuse, .bool d.off]) := by show Blk _ _ _ _; rw [hw1.out]; exact (Blk.new w 28 #[.slice px d.pages.length pc, .slice cx d.cache.length cc, .int .i64 d.fuse, .bool d.off]).al _
  have H5 : Hid (Blk w1 (w.heap.size + 1) 33 [.int .i64 0, .int .u64 0]) := by show Blk _ _ _ _; rw [hw1.out]; exact Blk.newAt (w.alloc _) 33 #[.int .i64 0, .int .u64 0] _ (by simp)
  clear hw1
  have hl5 := H5.out.lt
  go_upto_region 2 with (fail)
  go_wp2_with (first
    | (refine Agg.allocRow 33 #[.int .i64 0, .int .u64 0] rfl rfl (by kernel_rfl) ?_; simp only [Act.put, List.setIfInBounds_toArray, List.set_cons_succ, List.set_cons_zero])
    | (refine Agg.gStoreNew 2 [.int .i64 0, .int .u64 (after : Int)] rfl rfl rfl rfl rfl rfl (by decide +kernel) rfl rfl (by simp [Value.oneCell']) ?_; simp only [Act.put]))
  refine Agg.wp_at fun w2 hw2 => ?_
  have hb : Below w1.heap.size w1 w2 := by rw [hw2.out]; repeat (first | exact Below.refl _ _ | refine Agg.bel_drew ?_ | refine Agg.bel_alloc ?_ _)
  replace HB := Lib.hid (HB.out.trans (hb.mono HB.out.size))
  replace HD := Lib.hid (HD.out.keep hb)
  replace H2 := Lib.hid (H2.out.keep hb)
  replace H5 := Lib.hid (H5.out.keep hb)
  clear hb
  have H7 : Hid (Blk w2 w1.heap.size 33 [.int .i64 0, .int .u64 (after : Int)]) := by show Blk _ _ _ _; rw [hw2.out]; exact Blk.new w1 33 #[.int .i64 0, .int .u64 (after : Int)]
  have HG7 : Hid (w.heap.size + 1 < w1.heap.size) := Lib.hid hl5
  clear hw2 hl5
  generalize w1.heap.size = g7 at *
  obtain ⟨wZ, hwZ⟩ : ∃ x, x = w2 := ⟨_, rfl⟩
  subst hwZ
  have H2Z := H2
  have H5Z := H5
  have HBZ := HB
  have HSZ : Hid (g7 < wZ.heap.size) := Lib.hid H7.out.lt
  clear HD H2 H5 HB
  simp only [World.size_alloc]
  go_loopw [6] (fun s6 wr => ∃ (gs : List (List UInt8)) (p l : Nat), GrpO wr wZ.heap.size s6 gs ∧ (∃ y c, s6 = .slice y gs.length c) ∧ Blk wr g7 33 [.int .i64 (p : Int), .int .u64 (l : Int)] ∧ wZ.grownBy wr (some g7) ∧ gs ++ (repG f p l).1 = R.1 ∧ (repG f p l).2 = R.2 ∧ p ≤ 16 ∧ l < 18446744073709551616) (fun s6 _ => 17 - slN s6)
  case atStart => exact ⟨[], 0, after, GrpO.nil _ _, ⟨none, 0, rfl⟩, H7.out, World.grownBy.refl _ _, by rw [HRR.out]; rfl, by rw [HRR.out], by omega, ha⟩
  case round =>
    clear H7
    obtain ⟨gs, p, l, hG, ⟨y, c, rfl⟩, h7, hgw, he1, he2, hp2, hl2⟩ := hrel
    have HG := Lib.hid hG
    have H7 := Lib.hid h7
    have HGW := Lib.hid hgw
    have HE := Lib.hid (And.intro he1 he2)
    have hgl : gs.length ≤ 16 := by
      have := congrArg List.length he1
      rw [List.length_append] at this; omega
    have hg7 := HG7.out
    have HB := Lib.hid (HBZ.out.trans (grown_below hgw HBZ.out.size (fun j e => by cases e; omega)))
    have HD := Lib.hid (HD0.out.keep HB.out)
    have H2 := Lib.hid (H2Z.out.far' hgw (by omega))
    have H5 := Lib.hid (H5Z.out.far' hgw (by omega))
    have hsz := hgw.size
    clear hG h7 hgw he1 he2
    obtain ⟨wA, hwA⟩ : ∃ x, x = wr := ⟨_, rfl⟩
    subst hwA
    have HFA : Hid (From wA wA) := Lib.hid (Below.refl _ _)
    have c70 := H7.out.cell 0
    have c71 := H7.out.cell 1
    simp only [List.getElem?_cons_zero, List.getElem?_cons_succ] at c70 c71
    by_cases hp16 : p < 16
    · have h2 := H2.out
      go_wp2_with (refine Agg.gLoadB 4 h2 rfl rfl rfl rfl (by decide +kernel) ?_; simp only [Act.put, List.setIfInBounds_toArray, List.set_cons_succ, List.set_cons_zero])
      clear h2
      obtain ⟨m, hm⟩ : ∃ m, nextG f p l = m := ⟨_, rfl⟩
      refine (HGP.out wA _ HD.out p l hp2 hl2 m hm).mono ?_
      rintro e w21 ⟨u, rfl, hu, hb⟩
      replace HB := Lib.hid (HB.out.trans (hb.mono HB.out.size))
      replace HG := Lib.hid (HG.out.keep hb)
      replace H7 := Lib.hid (H7.out.keep hb)
      replace HD := Lib.hid (HD.out.keep hb)
      replace H2 := Lib.hid (H2.out.keep hb)
      replace H5 := Lib.hid (H5.out.keep hb)
      replace HFA := Lib.hid (HFA.out.keep hb)
      clear hb
      obtain ⟨ux, uc, rfl, _, _⟩ := (ownSl hu).shape
      have hm16 : p + m ≤ 16 := by rw [← hm]; exact nextG_le hp2
      have hpst : pSt (f p) ≤ 4611686018427387904 := pSt_max (HFO.out p)
      have hglen := grp_len f p m HFO.out
      have HU := Lib.hid (own_base hu hsz)
      have HGL : Hid (grp f p m = grp f p m) := Lib.hid rfl
      clear hu c70 c71
      by_cases hm0 : m = 0
      · subst hm0
        have hrn : repG f p l = ([], p, l) := repG_end hm
        have he := HE.out
        rw [hrn, List.append_nil] at he
        have HRE := Lib.hid he
        clear he hrn
        go_upto_region 6 with (fail)
        refine Agg.heldBegin (S := fun W => Blk W g7 33 [.int .i64 (p : Int), .int .u64 (l : Int)]) 4 (by kernel_rfl) rfl ?_
        have hb0 : Below w21.heap.size w21 w21.drew := bel_drew (Below.refl _ _)
        have h7 := H7.out.keep hb0
        have h5 := H5.out.keep hb0
        have hG := HG.out.keep hb0
        have hbA := HB.out.trans (hb0.mono HB.out.size)
        clear hb0
        generalize w21.drew = z0 at *
        simp only [List.replicate_succ, List.replicate_zero]
        refine Agg.heldTake (i := 0) (by decide +kernel) rfl rfl rfl (v := .slice y gs.length c) (fun W hW => Agg.run_move rfl rfl) h7 ?_
        simp only [List.set_cons_succ, List.set_cons_zero]
        refine Agg.heldTake (i := 1) (by decide +kernel) rfl rfl rfl (v := .agg #[.int .i64 (p : Int), .int .u64 (l : Int)]) (fun W hW => Agg.run_rowB 0 2 _ hW rfl rfl (by decide +kernel) rfl rfl) h7 ?_
        simp only [List.set_cons_succ, List.set_cons_zero]
        refine Agg.heldOne (i := 2) (by decide +kernel) rfl rfl rfl (v := .slice y gs.length c) (w' := z0) (Agg.run_assign rfl rfl) h7 ?_
        simp only [List.set_cons_succ, List.set_cons_zero]
        refine Agg.heldSt (i := 3) (f := 0) (.agg #[.int .i64 (p : Int), .int .u64 (l : Int)]) [.int .i64 (p : Int), .int .u64 (l : Int)] h5 rfl (by kernel_rfl) (by simp) (by simp [Value.oneCell']) (by decide +kernel) rfl rfl rfl rfl rfl rfl (fun w60 hb60 hg60 => ⟨h7.far' hg60 (by omega), ?_⟩)
        refine Agg.heldDone (by decide +kernel) ?_
        simp only [spliced, List.take_zero, List.drop_succ_cons, List.nil_append, List.length_cons, List.length_nil, List.drop_zero, List.cons_append, Nat.zero_add, Nat.reduceAdd, List.append_nil, List.drop_nil] at hb60
        have hG2 := hG.grown hg60 (by have := HSZ.out; omega)
        have hbC := hbA.trans (grown_below hg60 hbA.size (fun j hj => by cases hj; omega))
        have h1 := HRE.out.1
        have h2 := HRE.out.2
        go_wp2_with fail
        rw [← h1, ← h2]
        exact bodyPost_ret (results_tc (m := 2) rfl hb60 rfl (by decide +kernel) rfl) rfl ⟨_, rfl, hG2.base (by have := HBZ.out.size; omega), hbC⟩
      · have hmb : decide (m ≠ 0) = true := by simp [hm0]
        have hrn := repG_next hm hm0
        have he := HE.out
        rw [hrn] at he
        obtain ⟨S, hS⟩ : ∃ S, pSt (f p) = S := ⟨_, rfl⟩
        obtain ⟨G, hGe⟩ : ∃ G, grp f p m = G := ⟨_, rfl⟩
        rw [hGe] at HU hglen he
        rw [hS] at hpst he
        rw [hGe, if_neg hm0, hS, hmb]
        have HE2 : Hid ((gs ++ [G]) ++ (repG f (p + m) (S + m - 1)).1 = R.1 ∧ (repG f (p + m) (S + m - 1)).2 = R.2) := Lib.hid ⟨by rw [List.append_assoc]; exact he.1, he.2⟩
        clear hrn he hS hGe HE hmb
        obtain ⟨L, hL⟩ : ∃ L, S + m - 1 = L := ⟨_, rfl⟩
        rw [hL] at HE2
        rw [hL]
        have hL2 : L < 18446744073709551616 := by omega
        clear hL
        go_upto_region 7 with (fail)
        obtain ⟨vs, ho, hvl, hve⟩ := HG.out
        have HVE := Lib.hid hve
        have hbA : Below w21.heap.size w21 (w21.alloc (.cells #[.slice ux G.length uc] 37)) := (Below.refl _ _).alloc (Nat.le_refl _) _
        have hC3 := own_keep ho hbA
        have hsl : SlR (w21.alloc (.cells #[.slice ux G.length uc] 37)) (.slice (some ⟨w21.heap.size, 0, none⟩) 1 1) 1 1 [.slice ux G.length uc] := NewSl.sl (b0 := 0) (e := 37) ⟨_, rfl, Nat.zero_le _, Blk.new w21 37 #[.slice ux G.length uc]⟩ rfl (by unfold maxLen; decide)
        have hwz : wZ.heap.size ≤ w21.heap.size := Nat.le_trans hsz (Below.size HFA.out)
        have hlw : wZ.heap.size ≤ (w21.alloc (.cells #[.slice ux G.length uc] 37)).heap.size := Nat.le_trans hwz hbA.size
        have hone : ∀ u ∈ [Value.slice ux G.length uc], u.oneCell' = true := by simp [Value.oneCell']
        have hmx : gs.length + 1 ≤ maxLen := by unfold maxLen; omega
        have hby : (gs.length + 1) * 24 ≤ 140737488355328 := by omega
        have h7A := H7.out.keep hbA
        have hgz := HSZ.out
        have hgwA := grown_same HGW.out (below_grownBy (Below.trans HFA.out (hbA.mono (Below.size HFA.out))) (some g7))
        go_upto_region 8 with (refine Agg.append2 tiGG (.tmp 32) (.tmp 34) rfl rfl wZ.heap.size (v := .slice y gs.length c) rfl hC3 rfl hsl hone hmx hby hlw (fun v2 w4 hC4 hg4 hwh => ?_); obtain ⟨v2x, v2c, rfl, _, _⟩ := (ownSl hC4).shape; simp only [Act.put, List.setIfInBounds_toArray, List.set_cons_succ, List.set_cons_zero])
        have hU4 := (HU.out.keep hbA).kept hg4 (own_own (HU.out.keep hbA) hC3 (by decide))
        have h74 := blk_row h7A hg4 (own_off hC3 hgz)
        have hgw4 := grown_same' hgwA hg4 (own_block hC3)
        have hGO : GrpO w4 wZ.heap.size (.slice v2x (gs.length + 1) v2c) (gs ++ [G]) := by
          refine ⟨vs ++ [.slice ux G.length uc], by rw [List.length_append]; exact hC4, by simp [hvl], fun i v g hv hg => ?_⟩
          by_cases hi : i < gs.length
          · rw [List.getElem?_append_left (by omega)] at hv
            rw [List.getElem?_append_left hi] at hg
            have h1 := (HVE.out i v g hv hg).keep hbA
            exact h1.kept hg4 (own_own h1 hC3 (by decide))
          · rw [List.getElem?_append_right (by omega)] at hv
            rw [List.getElem?_append_right (by omega)] at hg
            have hi0 : i - gs.length = 0 := by
              have := (List.getElem?_eq_some_iff.1 hg).1
              simp at this; omega
            rw [hvl, hi0] at hv
            rw [hi0] at hg
            simp only [List.getElem?_cons_zero, Option.some.injEq] at hv hg
            subst hv; subst hg
            exact hU4
        have HGO := Lib.hid hGO
        have H74 := Lib.hid h74
        have HGW4 := Lib.hid hgw4
        clear hGO hgw4 hU4 hC4 hC3 hg4 hsl hbA h7A hgwA h74 ho hvl hve HVE
        have c70 := H74.out.cell 0
        simp only [List.getElem?_cons_zero] at c70
        have h74 := H74.out
        go_wp2_with (refine Agg.gStoreB 2 [.int .i64 ((p : Int) + (m : Int)), .int .u64 (L : Int)] h74 rfl rfl rfl rfl rfl (by decide +kernel) rfl rfl (by simp [Value.oneCell']) (fun w6 hb6 hg6 => ?_))
        have e1 : (p : Int) + (m : Int) = ((p + m : Nat) : Int) := by omega
        rw [e1] at hb6
        have hgo6 := HGO.out.grown hg6 hgz
        have hgw6 := grown_same HGW4.out hg6
        refine ⟨?_, by show 17 - (gs.length + 1) < 17 - gs.length; omega⟩
        exact ⟨gs ++ [G], p + m, L, hgo6, ⟨v2x, v2c, by rw [List.length_append]; rfl⟩, hb6, hgw6, HE2.out.1, HE2.out.2, hm16, hL2⟩
    · skip
      have hrn : repG f p l = ([], p, l) := repG_end (by unfold nextG; rw [show 16 - p = 0 by omega]; rfl)
      have he := HE.out
      rw [hrn, List.append_nil] at he
      have HRE := Lib.hid he
      clear c71 he hrn
      go_upto_region 9 with (fail)
      clear c70
      refine Agg.heldBegin (S := fun W => Blk W g7 33 [.int .i64 (p : Int), .int .u64 (l : Int)]) 4 (by kernel_rfl) rfl ?_
      have hb0 : Below wA.heap.size wA wA.drew := bel_drew (Below.refl _ _)
      have h7 := H7.out.keep hb0
      have h5 := H5.out.keep hb0
      have hG := HG.out.keep hb0
      have hbA := HB.out.trans (hb0.mono HB.out.size)
      clear hb0
      generalize wA.drew = z0 at *
      simp only [List.replicate_succ, List.replicate_zero]
      refine Agg.heldTake (i := 0) (by decide +kernel) rfl rfl rfl (v := .slice y gs.length c) (fun W hW => Agg.run_move rfl rfl) h7 ?_
      simp only [List.set_cons_succ, List.set_cons_zero]
      refine Agg.heldTake (i := 1) (by decide +kernel) rfl rfl rfl (v := .agg #[.int .i64 (p : Int), .int .u64 (l : Int)]) (fun W hW => Agg.run_rowB 0 2 _ hW rfl rfl (by decide +kernel) rfl rfl) h7 ?_
      simp only [List.set_cons_succ, List.set_cons_zero]
      refine Agg.heldOne (i := 2) (by decide +kernel) rfl rfl rfl (v := .slice y gs.length c) (w' := z0) (Agg.run_assign rfl rfl) h7 ?_
      simp only [List.set_cons_succ, List.set_cons_zero]
      refine Agg.heldSt (i := 3) (f := 0) (.agg #[.int .i64 (p : Int), .int .u64 (l : Int)]) [.int .i64 (p : Int), .int .u64 (l : Int)] h5 rfl (by kernel_rfl) (by simp) (by simp [Value.oneCell']) (by decide +kernel) rfl rfl rfl rfl rfl rfl (fun w60 hb60 hg60 => ⟨h7.far' hg60 (by omega), ?_⟩)
      refine Agg.heldDone (by decide +kernel) ?_
      simp only [spliced, List.take_zero, List.drop_succ_cons, List.nil_append, List.length_cons, List.length_nil, List.drop_zero, List.cons_append, Nat.zero_add, Nat.reduceAdd, List.append_nil, List.drop_nil] at hb60
      have hG2 := hG.grown hg60 (by have := HSZ.out; omega)
      have hbC := hbA.trans (grown_below hg60 hbA.size (fun j hj => by cases hj; omega))
      have h1 := HRE.out.1
      have h2 := HRE.out.2
      go_wp2_with fail
      rw [← h1, ← h2]
      exact bodyPost_ret (results_tc (m := 2) rfl hb60 rfl (by decide +kernel) rfl) rfl ⟨_, rfl, hG2.base (by have := HBZ.out.size; omega), hbC⟩
end Go.Proofs.Ytlddjcilbpcciaa
