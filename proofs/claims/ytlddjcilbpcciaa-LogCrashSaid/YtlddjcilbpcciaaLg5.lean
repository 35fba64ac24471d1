/-
  THE LOG: next, the group that lies where the reader is.
-/
import Derived.Test.YtlddjcilbpcciaaLgQ
import Derived.Test.YtlddjcilbpcciaaHeldIn
namespace Lg
open Go Go.RowKit Agg Pg Dv
theorem own_own {w : World} {b1 b2 s1 s2 n1 n2 : Nat} {e1 e2 : TypeId} {v1 v2 : Value} {x1 x2 : List Value} (h1 : w.ownsRow b1 e1 s1 v1 n1 x1) (h2 : w.ownsRow b2 e2 s2 v2 n2 x2) (hne : e1 ≠ e2) : v1.ownBlock = none ∨ v1.ownBlock ≠ v2.ownBlock := by
  rcases h1.2 with ⟨rfl, _⟩ | ⟨g, cap, cur, rfl, _, h3, _⟩
  · exact .inl rfl
  · refine .inr (fun e => ?_)
    rcases h2.2 with ⟨rfl, _⟩ | ⟨g2, cap2, cur2, rfl, _, h4, _⟩
    · simp [Value.ownBlock] at e
    · simp only [Value.ownBlock, Option.map_some, Option.some.injEq] at e
      subst e
      rw [h3] at h4
      simp only [Option.some.injEq, Obj.cells.injEq] at h4
      exact hne h4.2.1
theorem spliced_all1 (xs cs : List Value) (k : Nat) (h : xs.length = k) (h2 : cs.length = k) : spliced xs (0 * 1) (cs.take k) = cs := by
  rw [List.take_of_length_le (by omega)]
  simp [spliced]; omega
/-- the block of the rounds' deferred calls -/
def DefAt (W : World) (D : Nat) : Prop := W.heap[D]? = some (.deferred (some []))
theorem DefAt.keep {W W' : World} {D : Nat} (h : DefAt W D) (hb : Below W.heap.size W W') : DefAt W' D := (hb.block D (Array.getElem?_eq_some_iff.1 h).1).trans h
theorem grown_turn {w A C : World} {B : Nat} {g : Option Nat} (h : w.grownBy A g) (hT : Turn B A C) (hB : w.heap.size ≤ B) : w.grownBy C g := by
  obtain ⟨l, hg, hl, o, ho, _⟩ := hT.grown
  exact ⟨hg.os.trans h.os, hg.tape.trans h.tape, hg.output.trans h.output, Nat.le_trans h.size hg.size, fun k hk hne => (hg.block k (Nat.lt_of_lt_of_le hk h.size) (fun e => by cases e; omega)).trans (h.block k hk hne)⟩
theorem apart_base {w : World} {b s n : Nat} {e : TypeId} {v u : Value} {xs : List Value} (h : w.ownsRow b e s v n xs) (hu : ∀ r, u.ownBlock = some r → r < b) : v.ownBlock = none ∨ v.ownBlock ≠ u.ownBlock := by
  cases hv : v.ownBlock with
  | none => exact .inl rfl
  | some r =>
    refine .inr (fun e => ?_)
    have h1 := own_block h r hv
    have h2 := hu r e.symm
    omega
theorem own_lt {w : World} {b s n : Nat} {e : TypeId} {v : Value} {xs : List Value} (h : w.ownsRow b e s v n xs) : ∀ r, v.ownBlock = some r → r < w.heap.size := by
  intro r hr
  rcases h.2 with ⟨rfl, _⟩ | ⟨g, cap, cur, rfl, _, h3, _⟩
  · simp [Value.ownBlock] at hr
  · obtain rfl : g = r := by simpa [Value.ownBlock] using hr
    exact (Array.getElem?_eq_some_iff.1 h3).1
end Lg
namespace Go.Proofs.Ytlddjcilbpcciaa
open Go.ChangeShapes Go.WideShapes Go.ChangeAt Go.RowKit Agg Pg Dv Lg
attribute [local go_sem] Oper.semAt_some

theorem fo_Rd_0 : Agg.fieldOff Try.prog 73 0 = some 0 := by kernel_rfl
theorem fo_Rd_1 : Agg.fieldOff Try.prog 73 1 = some 2 := by kernel_rfl
theorem fo_Lo_0 : Agg.fieldOff Try.prog 33 0 = some 0 := by kernel_rfl
theorem fo_Lo_1 : Agg.fieldOff Try.prog 33 1 = some 1 := by kernel_rfl
theorem fo_Pt_0 : Agg.fieldOff Try.prog 97 0 = some 0 := by kernel_rfl
theorem fo_Pt_1 : Agg.fieldOff Try.prog 97 1 = some 1 := by kernel_rfl
theorem fo_Pt_2 : Agg.fieldOff Try.prog 97 2 = some 2 := by kernel_rfl
/-- the stamp so far -/
noncomputable def stK (f : Nat → List Sec) (p k : Nat) : Nat := if k = 0 then 0 else pSt (f p)
def blkTo (f : Nat → List Sec) (p k : Nat) : List (List Sec) := (List.range k).map fun i => f (p + i)
theorem blkTo_succ (f : Nat → List Sec) (p k : Nat) : blkTo f p (k + 1) = blkTo f p k ++ [f (p + k)] := by
  unfold blkTo; rw [List.range_succ, List.map_append]; rfl
theorem try_last {f : Nat → List Sec} {p last m : Nat} (h : tryB f p last m = true) : last < pSt (f p) := by
  unfold tryB at h; simp only [Bool.and_eq_true, decide_eq_true_eq] at h; exact h.1.1.2
theorem try_need {f : Nat → List Sec} {p last m : Nat} (h : tryB f p last m = true) : needL (grp f p m).length = (m : Int) := by
  unfold tryB at h; simp only [Bool.and_eq_true, decide_eq_true_eq] at h; exact h.1.2
theorem try_same {f : Nat → List Sec} {p last m : Nat} (h : tryB f p last m = true) : sameB f p m m = true := by
  unfold tryB at h; simp only [Bool.and_eq_true, decide_eq_true_eq] at h; exact h.2
theorem blkTo_length (f : Nat → List Sec) (p k : Nat) : (blkTo f p k).length = k := by simp [blkTo]
/-- the last stamp then -/
def lastG (last s m : Nat) : Nat := if m = 0 then last else s + m - 1
def rdC (d : Dev) (px cx : Option Addr) (pc cc p last : Nat) : List Value := [.int .i64 (p : Int), .int .u64 (last : Int), .slice px d.pages.length pc, .slice cx d.cache.length cc, .int .i64 d.fuse, .bool d.off]
/-- what is met so far lies in memory -/
structure Met (f : Nat → List Sec) (p : Nat) (g3 g4 g5 n1 : Nat) (w : World) (k s : Nat) (W : World) (u v : Value) : Prop where
  c3 : Blk W g3 37 [u]
  c4 : Blk W g4 25 [v]
  c5 : Blk W g5 29 [.int .u64 (s : Int)]
  ou : W.ownsRow n1 5 1 u (grp f p k).length (bv (grp f p k))
  ov : W.ownsRow n1 54 132 v k ((blkTo f p k).flatMap blkC)
  bel : Below w.heap.size w W
  size : n1 ≤ W.heap.size
theorem Met.turn {f : Nat → List Sec} {p g3 g4 g5 n1 : Nat} {w A B : World} {k s : Nat} {u v : Value} (h : Met f p g3 g4 g5 n1 w k s A u v) (hT : Turn n1 A B) (hn : w.heap.size ≤ n1) : Met f p g3 g4 g5 n1 w k s B u v := by
  have hs : A.heap.size = B.heap.size := by obtain ⟨l, o, o', rfl, _⟩ := hT; exact World.putObj_size.symm
  exact ⟨hT.blk h.c3, hT.blk h.c4, hT.blk h.c5, hT.own h.ou, hT.own h.ov, hT.below h.bel hn, by have := h.size; omega⟩
theorem Met.keep {f : Nat → List Sec} {p g3 g4 g5 n1 : Nat} {w A B : World} {k s : Nat} {u v : Value} (h : Met f p g3 g4 g5 n1 w k s A u v) (hb : Below A.heap.size A B) : Met f p g3 g4 g5 n1 w k s B u v :=
  ⟨h.c3.keep hb, h.c4.keep hb, h.c5.keep hb, h.ou.keep hb, h.ov.keep hb, h.bel.trans (hb.mono h.bel.size), Nat.le_trans h.size hb.size⟩
/-- .. the stamp is stored -/
theorem Met.stamp {f : Nat → List Sec} {p g3 g4 g5 n1 : Nat} {w A B : World} {k s s' : Nat} {u v : Value} (h : Met f p g3 g4 g5 n1 w k s A u v) (hg : A.grownBy B (some g5)) (hb : Blk B g5 29 [.int .u64 (s' : Int)]) (h5 : w.heap.size ≤ g5) : Met f p g3 g4 g5 n1 w k s' B u v :=
  ⟨h.c3.far' hg (blk_ne h.c3 h.c5 (by decide)), h.c4.far' hg (blk_ne h.c4 h.c5 (by decide)), hb, h.ou.kept hg (own_apart h.ou h.c5 (by decide)), h.ov.kept hg (own_apart h.ov h.c5 (by decide)),
    h.bel.trans (grown_below hg h.bel.size (fun j hj => by cases hj; exact h5)), Nat.le_trans h.size hg.size⟩
theorem KpP.below {n0 ga gd : Nat} {A B : World} (hb : Below A.heap.size A B) (h0 : n0 ≤ A.heap.size) (h1 : ga < A.heap.size) (h2 : gd < A.heap.size) : KpP n0 ga gd A B := ⟨hb.size, fun k hk => hb.block k (by omega), hb.block _ h1, hb.block _ h2⟩
theorem KpP.grown {n0 ga gd : Nat} {A B : World} {row : Option Nat} (hg : A.grownBy B row) (h0 : n0 ≤ A.heap.size) (h1 : ga < A.heap.size) (h2 : gd < A.heap.size) (hr : ∀ r, row = some r → n0 ≤ r ∧ r ≠ ga ∧ r ≠ gd) : KpP n0 ga gd A B :=
  ⟨hg.size, fun k hk => hg.block k (by omega) (fun e => by have := hr k e.symm; omega), hg.block _ h1 (fun e => (hr _ e.symm).2.1 rfl), hg.block _ h2 (fun e => (hr _ e.symm).2.2 rfl)⟩
def zPart : List Value := .slice none 0 0 :: .int .u64 0 :: blkC zeroB
theorem pOk_len {b : List Sec} (h : pOk b = true) (hb : BOk b) : ∃ m, (pData b).length = m + 2 ∧ 1 ≤ m ∧ m ≤ 118 ∧ 1 ≤ pSt b ∧ pSt b ≤ 4611686018427387904 := by
  obtain ⟨h1, h2, h3⟩ := (pOk_iff b).1 h
  rcases readR_two b hb with ⟨_, h4, h5, _⟩ | ⟨h4, _⟩
  · have := h4.2.2
    exact ⟨(readR b).1.2.length - 2, by show (readR b).1.2.length = _; omega, by omega, by omega, h5.1, h5.2⟩
  · exact absurd h1 h4
set_option maxHeartbeats 4000000 in
set_option maxRecDepth 100000 in
theorem next_any (d : Dev) (p0 last : Nat) (px cx : Option Addr) (pc cc gr : Nat) (w : World) (hd : DGood d) (hc : d.cache.length ≤ 1000000) (hr : rightD d = true) (ho : d.off = false) (hp : p0 ≤ 16) (hl : last < 18446744073709551616)
    (hD : DevR w (.agg #[.slice px d.pages.length pc, .slice cx d.cache.length cc, .int .i64 d.fuse, .bool d.off]) d) (hR : Blk w gr 73 [.int .i64 (p0 : Int), .int .u64 (last : Int), .slice px d.pages.length pc, .slice cx d.cache.length cc, .int .i64 d.fuse, .bool d.off]) (m : Nat) (hm : nextG (atL d) p0 last = m) :
    Calls Try.prog 34 #[.pointer (some ⟨gr, 0, none⟩)] w fun e w' => ∃ u, e = .returned u ∧ w'.ownsRow w.heap.size 5 1 u (grp (atL d) p0 m).length (bv (grp (atL d) p0 m)) ∧ Blk w' gr 73 (rdC d px cx pc cc (p0 + m) (lastG last (pSt (atL d p0)) m)) ∧ w.grownBy w' (some gr) := by
  have HD := Lib.hid hD
  have HR := Lib.hid hR
  have hgr := hR.lt
  have HM := Lib.hid hm
  have HD0 := HD
  have HR0 := HR
  have HPK := Lib.hid (fun k => (lenF_spec (atL d) (16 - p0) p0).2.1 k)
  have hle := (lenF_spec (atL d) (16 - p0) p0).1
  have HIT := Lib.hid (fun gd ga w0 (h : DevR w0 _ d) => parts_iter d p0 px cx pc cc gd ga w0 hd hc hr ho hp h)
  have HBK := Lib.hid (fun q => atL_bok hd q)
  clear hD hR hm hd hc hr ho
  generalize atL d = f at *
  have HB := Lib.hid (Below.refl w.heap.size w)
  refine Agg.calls_of_marks Try.func34 rfl ?_
  simp only [Try.ntmps34, List.size_toArray, List.length_cons, List.length_nil, Nat.reduceAdd, Nat.reduceSub, Array.replicate_succ, Array.replicate_zero, List.push_toArray, List.append_toArray, List.nil_append, List.cons_append]
  go_upto_region 4 with (fail)
  refine Agg.wp_at fun w1 hw1 => ?_
  have hb : Below w.heap.size w w1 := by rw [hw1.out]; repeat (first | exact Below.refl _ _ | refine Agg.bel_drew ?_ | refine Agg.bel_alloc ?_ _)
  replace HB := Lib.hid (HB.out.trans (hb.mono HB.out.size))
  replace HD := Lib.hid (HD.out.keep hb)
  replace HR := Lib.hid (HR.out.keep hb)
  clear hb
  have H3 : Hid (Blk w1 w.heap.size 37 [.slice none 0 0]) := by show Blk _ _ _ _; rw [hw1.out]; exact ((Blk.new w 37 #[.slice none 0 0]).al _).al _
  have H4 : Hid (Blk w1 (w.heap.size + 1) 25 [.slice none 0 0]) := by show Blk _ _ _ _; rw [hw1.out]; exact (Blk.newAt (w.alloc _) 25 #[.slice none 0 0] _ (by simp)).al _
  have H5 : Hid (Blk w1 (w.heap.size + 1 + 1) 29 [.int .u64 0]) := by show Blk _ _ _ _; rw [hw1.out]; exact Blk.newAt ((w.alloc _).alloc _) 29 #[.int .u64 0] _ (by simp)
  have HSZ : Hid (w1.heap.size = w.heap.size + 3) := by show _ = _; rw [hw1.out]; simp
  clear hw1
  have HDV : Hid (DevR w1 (.agg #[.slice px d.pages.length pc, .slice cx d.cache.length cc, .int .i64 d.fuse, .bool d.off]) d) := Lib.hid HD.out
  clear HD
  have HC4 : Hid (∀ i v, [Value.slice px d.pages.length pc, .slice cx d.cache.length cc, .int .i64 d.fuse, .bool d.off][i]? = some v → w1.cell? ⟨gr, 0 + 2 + i, none⟩ = some v) := Lib.hid (fun i v hi => by
    have h : i < 4 := (List.getElem?_eq_some_iff.1 hi).1
    rw [HR.out.cell, show 0 + 2 + i = i + 2 by omega, ← hi]
    match i, h with
    | 0, _ => rfl
    | 1, _ => rfl
    | 2, _ => rfl
    | 3, _ => rfl)
  refine Agg.chainR 9 (by kernel_rfl) (by kernel_rfl) ?_
  simp only [List.take_succ_cons, List.take_zero, List.drop_succ_cons, List.drop_zero]
  refine Agg.chMove rfl rfl rfl rfl ?_
  refine Agg.chNil rfl rfl rfl rfl ?_
  refine Agg.chFA fo_Rd_1 rfl rfl rfl rfl ?_
  refine Agg.chRowAt 4 [.slice px d.pages.length pc, .slice cx d.cache.length cc, .int .i64 d.fuse, .bool d.off] rfl (by decide +kernel) rfl rfl rfl rfl HC4.out ?_
  refine Agg.chMove rfl rfl rfl rfl ?_
  refine Agg.chNil rfl rfl rfl rfl ?_
  refine Agg.chFA fo_Rd_0 rfl rfl rfl rfl ?_
  refine Agg.chFA fo_Lo_0 rfl rfl rfl rfl ?_
  refine Agg.chLoadB HR.out (by decide +kernel) rfl rfl (by rfl) rfl rfl ?_
  refine Agg.chEnd ?_
  intro vs w2 hb hf
  simp only [List.reverse, List.reverseAux, Agg.Facts] at hf
  obtain _ := hf
  simp only [List.reverse, List.reverseAux, Agg.fill, List.set_cons_succ, List.set_cons_zero]
  replace HB := Lib.hid (HB.out.trans (hb.mono HB.out.size))
  replace HR := Lib.hid (HR.out.keep hb)
  replace H3 := Lib.hid (H3.out.keep hb)
  replace H4 := Lib.hid (H4.out.keep hb)
  replace H5 := Lib.hid (H5.out.keep hb)
  replace HDV := Lib.hid (HDV.out.keep hb)
  have HSZ2 : Hid (w.heap.size + 3 ≤ w2.heap.size) := Lib.hid (by have := HSZ.out; have := hb.size; omega)
  clear hb HC4 HSZ
  refine Agg.tCall Try.func49 rfl (by kernel_rfl) rfl rfl (args := [.tmp 13, .tmp 18]) (vs := [.agg #[.slice px d.pages.length pc, .slice cx d.cache.length cc, .int .i64 d.fuse, .bool d.off], .int .i64 (p0 : Int)]) rfl ?_
  refine (parts_any _ _ _ _ p0 w2).mono ?_
  rintro e wB ⟨rfl, hgd, hga, hsB, hb⟩
  refine ⟨_, rfl, ?_⟩
  refine Agg.wpNil ?_
  simp only [Act.put, List.setIfInBounds_toArray, List.set_cons_succ, List.set_cons_zero]
  have HB2 := Lib.hid (HB.out.trans (hb.mono HB.out.size))
  replace HB := HB2
  replace H3 := Lib.hid (H3.out.keep hb)
  replace H4 := Lib.hid (H4.out.keep hb)
  replace H5 := Lib.hid (H5.out.keep hb)
  have HGD := Lib.hid hgd
  have HGA := Lib.hid hga
  clear hb hgd hga HR HDV HB2
  obtain ⟨gd, hgdn⟩ : ∃ g, w2.heap.size = g := ⟨_, rfl⟩
  have hgd2 := HSZ2.out
  rw [hgdn] at hsB HGD HGA hgd2 ⊢
  clear hgdn HSZ2
  have hit := HIT.out gd (gd + 1) w HD0.out
  have HIT2 := Lib.hid hit
  clear hit HIT
  go_step
  go_step
  refine Agg.range_blockR rfl (Agg.enters Try.func56 (by kernel_rfl) rfl) HIT2.out (fun W h => ⟨Nat.le_trans HB.out.size h.size, agr_below (HB.out.trans (h.mono HB.out.size)), HGA.out.keep h, HGD.out.keep h⟩)
    (fun A B h => ⟨none, below_grownBy h none, fun r e => by cases e⟩) (fun A B C h1 h2 => h1.trans h2) (fun A B h => ?_) (fun A W x vs h => ?_)
    (fun k W => ∃ u v, Met f p0 w.heap.size (w.heap.size + 1) (w.heap.size + 1 + 1) wB.heap.size w k (stK f p0 k) W u v ∧ ∀ j, j + 1 ≤ k → j + 1 < manyB (f (p0 + j)))
    (fun k W => ∃ u v, Met f p0 w.heap.size (w.heap.size + 1) (w.heap.size + 1 + 1) wB.heap.size w k (stK f p0 k) W u v ∧ (∀ j, j + 1 < k → j + 1 < manyB (f (p0 + j))) ∧ ∃ j, k = j + 1 ∧ manyB (f (p0 + j)) ≤ k)
    (fun k A B h hT => ?_) (fun k A B h hT => ?_) (fun k A B h hab => ?_) (fun k A B h hab => ?_) (fun W h => ?_) ?_ ?_
  · obtain ⟨l', o, o', rfl, hl, ho, hc⟩ := h
    exact ⟨by rw [World.putObj_size]; exact Nat.le_refl _, fun k hk => World.putObj_heap_other (by omega), World.putObj_heap_other (by omega), World.putObj_heap_other (by omega)⟩
  · obtain ⟨x, c, rfl, _⟩ := h
    rfl
  · obtain ⟨u, v, h1, h2⟩ := h
    exact ⟨u, v, h1.turn hT (by omega), h2⟩
  · obtain ⟨u, v, h1, h2⟩ := h
    exact ⟨u, v, h1.turn hT (by omega), h2⟩
  · obtain ⟨u, v, h1, h2⟩ := h
    exact ⟨u, v, h1.keep hab, h2⟩
  · obtain ⟨u, v, h1, h2⟩ := h
    exact ⟨u, v, h1.keep hab, h2⟩
  · exact ⟨_, _, ⟨H3.out.keep h, H4.out.keep h, H5.out.keep h, World.ownsRow_nil _ _ _ _, World.ownsRow_nil _ _ _ _, HB.out.trans (h.mono HB.out.size), h.size⟩, fun j hj => by omega⟩
  · rintro lr k hk A0 W vs hszk ⟨u, v, hM0, hJ⟩ habW ⟨x, c, rfl, hby⟩
    have hM := hM0.keep habW
    have huA := own_lt hM0.ou
    have hvA := own_lt hM0.ov
    have hszA := habW.size
    clear hM0
    have hkl : k < lenF f p0 (16 - p0) := by rw [partsF_length] at hk; exact hk
    have hb0 := partsF_get f p0 k hk
    rw [hb0] at hby ⊢
    have hpo := HPK.out k hkl
    have hbo := HBK.out (p0 + k)
    have hgs := grp_succ f p0 k
    have hbs := blkTo_succ f p0 k
    obtain ⟨mm, hm1, hm2, hm3, hs1, hs2⟩ := pOk_len hpo hbo
    obtain ⟨b, hb⟩ : ∃ b, f (p0 + k) = b := ⟨_, rfl⟩
    rw [hb] at hby hpo hbo hgs hbs hm1 hs1 hs2 ⊢
    rw [hm1] at hby ⊢
    have HBO := Lib.hid hbo
    have hp132 : (Value.slice x (mm + 2) c :: .int .u64 (pSt b : Int) :: blkC b).length = 134 := by rw [List.length_cons, List.length_cons, bok_cells hbo]
    have hpone : ∀ v ∈ (Value.slice x (mm + 2) c :: .int .u64 (pSt b : Int) :: blkC b), v.oneCell' = true := by
      intro v hv
      rcases List.mem_cons.1 hv with rfl | hv
      · rfl
      · rcases List.mem_cons.1 hv with rfl | hv
        · rfl
        · exact blkC_one b v hv
    have hz134 : zPart.toArray.size = 134 := by decide +kernel
    refine Agg.region_in Agg.false_no rfl ?_
    simp only [List.zip_toArray, List.zip_cons_cons, List.zip_nil_left, List.zip_nil_right, List.foldl_toArray, List.foldl_cons, List.foldl_nil, List.setIfInBounds_toArray, List.set_cons_succ, List.set_cons_zero]
    go_wp2_with (first
      | (refine Agg.allocRow 97 zPart.toArray rfl rfl (by kernel_rfl) ?_; simp only [Act.put, List.setIfInBounds_toArray, List.set_cons_succ, List.set_cons_zero])
      | (refine Agg.gStoreNew 134 (.slice x (mm + 2) c :: .int .u64 (pSt b : Int) :: blkC b) rfl rfl rfl rfl rfl rfl (by decide +kernel) hp132 hz134 hpone ?_; simp only [Act.put]))
    have hbX : Below W.heap.size W (W.alloc (.cells (.slice x (mm + 2) c :: .int .u64 (pSt b : Int) :: blkC b).toArray 97)) := (Below.refl _ _).alloc (Nat.le_refl _) _
    refine ⟨Agg.keeps_below hbX, KpP.below hbX (by omega) (by omega) (by omega), fun W2 hT => ?_⟩
    have HM2 := Lib.hid ((hM.keep hbX).turn hT (by omega))
    have H6 := Lib.hid (hT.blk (Blk.new W 97 (.slice x (mm + 2) c :: .int .u64 (pSt b : Int) :: blkC b).toArray))
    have HBY : Hid (W2.ownsRow A0.heap.size 5 1 (.slice x (mm + 2) c) (mm + 2) (bv (pData b))) := by
      have h2 := hby.keep hbX
      refine Lib.hid ?_
      obtain ⟨l', o, o', rfl, hl', ho', hc'⟩ := hT
      exact Turn.own (B := 0) ⟨l', o, o', rfl, Nat.zero_le _, ho', hc'⟩ h2
    have hsz2 : wB.heap.size ≤ W2.heap.size := HM2.out.size
    have hA2 : A0.heap.size ≤ W2.heap.size := by
      have h1 := hbX.size
      have h2 : W2.heap.size = (W.alloc (.cells (.slice x (mm + 2) c :: .int .u64 (pSt b : Int) :: blkC b).toArray 97)).heap.size := by obtain ⟨l', o, o', rfl, _⟩ := hT; exact World.putObj_size
      omega
    clear hM hbX hT hby hp132 hpone hz134 hb0 habW hszA
    have H6L := H6.out.lt
    generalize W.heap.size = g6 at *
    have HJ := Lib.hid hJ
    have HGS := Lib.hid hgs
    have HBS := Lib.hid hbs
    have HPO := Lib.hid hpo
    have HMB := Lib.hid hb
    have HML := Lib.hid hm1
    clear hJ hgs hbs hpo hb hm1 hk
    have hst0 : k = 0 ∧ stK f p0 k = 0 ∧ pSt b = pSt (f p0) ∨ k ≠ 0 ∧ stK f p0 k = pSt (f p0) := by
      by_cases h : k = 0
      · refine .inl ⟨h, by unfold stK; rw [if_pos h], ?_⟩
        rw [← HMB.out, h]; rfl
      · exact .inr ⟨h, by unfold stK; rw [if_neg h]⟩
    have hstn : stK f p0 (k + 1) = pSt (f p0) := by unfold stK; rw [if_neg (by omega)]
    have hS1 : 1 ≤ pSt (f p0) := by
      have h0 := HPK.out 0 (by omega)
      obtain ⟨_, _, _, _, h, _⟩ := pOk_len h0 (HBK.out _)
      exact h
    have HSN := Lib.hid hstn
    clear hstn
    refine wpIn_block ?_
    refine wpIn_seq ?_
    refine wpIn_seq ?_
    rcases hst0 with ⟨hk0, hs0, hsb⟩ | ⟨hk0, hs0⟩
    · rw [hs0] at HM2
      clear hk0
      have c5 := HM2.out.c5.cell 0
      have c61 := H6.out.cell 1
      simp only [List.getElem?_cons_zero, List.getElem?_cons_succ] at c5 c61
      rw [hsb] at c61
      refine Agg.region_in (Agg.then_no (Agg.then_no (Agg.block_no Agg.roundEnd_no))) rfl ?_
      go_wp2_with fail
      refine wpIn_cond_true rfl ?_
      refine Agg.region_in (Agg.then_no (Agg.block_no Agg.roundEnd_no)) rfl ?_
      have h5 := HM2.out.c5
      go_wp2_with (first
        | (refine Agg.gStoreCell 0 (.int .u64 (pSt (f p0) : Int)) h5 rfl rfl rfl rfl rfl (by kernel_rfl) rfl (by simp) rfl (fun w3 hb3 hg3 => ?_)))
      simp only [spliced, List.take_zero, List.drop_succ_cons, List.nil_append, List.drop_nil, List.append_nil, List.length_cons, List.length_nil, List.drop_zero] at hb3
      have HKF := Lib.hid (Agg.keeps_blk (B := wB.heap.size) h5 hg3)
      have HKP : Hid (KpP w.heap.size (gd + 1) gd W2 w3) := Lib.hid (KpP.grown hg3 (by omega) (by omega) (by omega) (fun r e => by cases e; omega))
      have HM3 := Lib.hid (HM2.out.stamp hg3 hb3 (by omega))
      have H63 := Lib.hid (H6.out.far' hg3 (blk_ne H6.out h5 (by decide)))
      have HBY3 : Hid (w3.ownsRow A0.heap.size 5 1 (.slice x (mm + 2) c) (mm + 2) (bv (pData b))) := Lib.hid (HBY.out.kept hg3 (own_apart HBY.out h5 (by decide)))
      have hs3 : W2.heap.size ≤ w3.heap.size := hg3.size
      clear hs0 hsb c5 c61 h5 hb3 hg3 HM2 H6 HBY
      obtain ⟨ux, uc, rfl, _, _⟩ := (ownSl HM3.out.ou).shape
      obtain ⟨vx, vc, rfl, _, _⟩ := (ownSl HM3.out.ov).shape
      refine wpIn_seq ?_
      have c60 := H63.out.cell 0
      simp only [List.getElem?_cons_zero] at c60
      refine Agg.region_in (Agg.then_no (Agg.block_no Agg.roundEnd_no)) rfl ?_
      go_wp2_with (refine Agg.make ti25 _ _ rfl rfl mm mm rfl rfl (by omega) (by omega) (Nat.le_refl _) (by omega) (by unfold maxLen; omega) ?_; simp only [Act.put, List.setIfInBounds_toArray, List.set_cons_succ, List.set_cons_zero])
      clear c60
      have hlit := World.ownsRow_lit (e := 5) (size := 1) (base := w3.heap.size) w3 (madeCells (Value.cells (.int .u8 0)) (mm * 1)) mm (Nat.le_refl _) (by unfold maxLen; omega) (size_madeCells _ _)
      have hxl : (madeCells (Value.cells (.int .u8 0)) (mm * 1)).toList.length = mm * 1 := by simp [size_madeCells]
      generalize (madeCells (Value.cells (.int .u8 0)) (mm * 1)) = zs at *
      have hb4 : Below w3.heap.size w3 (w3.alloc (.cells zs 5)) := (Below.refl _ _).alloc (Nat.le_refl _) _
      have c60 := (H63.out.keep hb4).cell 0
      simp only [List.getElem?_cons_zero] at c60
      have hby4 := ownSl (HBY3.out.keep hb4)
      obtain ⟨y3, c3, hsl, hr3⟩ := Agg.slR_rest ti25 (by decide) hby4 2 (by omega)
      have hbd : (bv (pData b)).drop (2 * 1) = bv ((pData b).drop 2) := (bv_drop _ _).symm
      rw [hbd] at hr3
      rw [Nat.add_sub_cancel] at hsl hr3
      generalize w3.alloc (.cells zs 5) = w4 at *
      refine wpIn_seq ?_
      refine Agg.region_in (Agg.then_no (Agg.block_no Agg.roundEnd_no)) rfl ?_
      go_wp2_with (first
        | (refine Agg.gSliceFrom (.slice y3 mm c3) rfl rfl rfl rfl hsl ?_; simp only [Act.put, List.setIfInBounds_toArray, List.set_cons_succ, List.set_cons_zero])
        | (refine Agg.copy ti25 _ _ rfl rfl hlit 0 mm mm rfl rfl rfl hr3 (bv_one _) mm (by simp) (by omega) (fun w5 ho5 hg5 => ?_); simp only [Act.put, List.setIfInBounds_toArray, List.set_cons_succ, List.set_cons_zero]))
      have ho5' := ho5.out
      have hdl : (bv ((pData b).drop 2)).length = mm * 1 := by rw [bv_length, List.length_drop, HML.out]; omega
      rw [spliced_all1 _ _ _ hxl hdl] at ho5'
      have hb5 : Below w3.heap.size w3 w5 := hb4.trans (grown_below hg5 hb4.size (fun j hj => by cases hj; exact Nat.le_refl _))
      have HOW := Lib.hid ho5'
      have HDL := Lib.hid hdl
      have HB35 := Lib.hid hb5
      have HM5 := Lib.hid (HM3.out.keep hb5)
      have H65 := Lib.hid (H63.out.keep hb5)
      have HBY5 := Lib.hid (HBY3.out.keep hb5)
      clear hlit hxl hb4 c60 hby4 hsl hr3 hbd ho5 ho5' hg5 hb5 hdl HM3 H63 HBY3
      refine wpIn_seq ?_
      refine Agg.heldTailIn (S := fun W => Blk W w.heap.size 37 [.slice ux (grp f p0 k).length uc] ∧ Blk W (w.heap.size + 1) 25 [.slice vx k vc] ∧ Blk W g6 97 (.slice x (mm + 2) c :: .int .u64 (pSt b : Int) :: blkC b)) 8 (by kernel_rfl) rfl (by kernel_rfl) ?_
      have hb0 : Below w5.heap.size w5 w5.drew := bel_drew (Below.refl _ _)
      replace HM5 := Lib.hid (HM5.out.keep hb0)
      replace H65 := Lib.hid (H65.out.keep hb0)
      replace HBY5 := Lib.hid (HBY5.out.keep hb0)
      replace HOW := Lib.hid (HOW.out.keep hb0)
      replace HB35 := Lib.hid (HB35.out.trans (hb0.mono HB35.out.size))
      clear hb0
      generalize w5.drew = z0 at *
      simp only [List.take_succ_cons, List.take_zero, List.replicate_succ, List.replicate_zero]
      have hk16 : k < 16 := by have := (lenF_spec f (16 - p0) p0).1; omega
      have h132 := bok_cells HBO.out
      have hz0 : Blk z0 w.heap.size 37 [.slice ux (grp f p0 k).length uc] ∧ Blk z0 (w.heap.size + 1) 25 [.slice vx k vc] ∧ Blk z0 g6 97 (.slice x (mm + 2) c :: .int .u64 (pSt b : Int) :: blkC b) := ⟨HM5.out.c3, HM5.out.c4, H65.out⟩
      refine Agg.heldTake (i := 0) (by decide +kernel) rfl rfl rfl (v := .slice ux (grp f p0 k).length uc) (fun W hW => Agg.run_ld (by decide +kernel) rfl rfl ((hW.1.cell 0).trans rfl)) hz0 ?_
      simp only [List.set_cons_succ, List.set_cons_zero]
      refine Agg.heldTake (i := 1) (by decide +kernel) rfl rfl rfl (v := .slice (some ⟨w3.heap.size, 0, none⟩) mm mm) (fun W hW => Agg.run_move rfl rfl) hz0 ?_
      simp only [List.set_cons_succ, List.set_cons_zero]
      refine Agg.heldTake (i := 3) (by decide +kernel) rfl rfl rfl (v := .slice vx k vc) (fun W hW => Agg.run_ld (by decide +kernel) rfl rfl ((hW.2.1.cell 0).trans rfl)) hz0 ?_
      simp only [List.set_cons_succ, List.set_cons_zero]
      refine Agg.heldTake (i := 4) (by decide +kernel) rfl rfl rfl (v := .pointer (some ⟨g6, 0 + 2, none⟩)) (fun W hW => Agg.run_fa fo_Pt_2 rfl rfl) hz0 ?_
      simp only [List.set_cons_succ, List.set_cons_zero]
      refine Agg.heldTake (i := 5) (by decide +kernel) rfl rfl rfl (v := .agg (blkC b).toArray) (fun W hW => Agg.run_rowB (0 + 2) 132 (blkC b) hW.2.2 (by simp only [Nat.zero_add, List.drop_succ_cons, List.drop_zero]; exact List.take_of_length_le (by omega)) h132 (by decide +kernel) rfl rfl) hz0 ?_
      simp only [List.set_cons_succ, List.set_cons_zero]
      have hgl := grp_len f p0 k HBK.out
      have hzs : wB.heap.size ≤ z0.heap.size := HM5.out.size
      refine Agg.heldPair ti25 (t2 := 25) (e2 := 54) (.tmp 35) (.tmp 36) (.tmp 40) (i := 2) (j := 6) (by decide +kernel) (by decide +kernel) (by decide +kernel) rfl rfl rfl rfl rfl rfl rfl rfl (by decide) (by decide) (fun _ => rfl) (fun _ => rfl) (fun _ => rfl) wB.heap.size rfl HM5.out.ou rfl (ownSl HOW.out) (bv_one _) (by unfold maxLen; omega) (by omega) hzs (blkC b).toArray (fun W => by exact lit_blk b HBO.out W)
        (fun w' hg => ⟨blk_row HM5.out.c3 hg (own_apart HM5.out.ou HM5.out.c3 (by decide)), blk_row HM5.out.c4 hg (own_apart HM5.out.ou HM5.out.c4 (by decide)), blk_row H65.out hg (own_apart HM5.out.ou H65.out (by decide))⟩) (fun v6 p6 w6 ho6 hp6 hpz hg6 => ?_)
      simp only [List.set_cons_succ, List.set_cons_zero]
      obtain ⟨u6x, u6c, rfl, _, _⟩ := (ownSl ho6).shape
      have hov6 := HM5.out.ov.kept hg6 (own_own HM5.out.ov HM5.out.ou (by decide))
      have hc36 := blk_row HM5.out.c3 hg6 (own_apart HM5.out.ou HM5.out.c3 (by decide))
      have hc46 := blk_row HM5.out.c4 hg6 (own_apart HM5.out.ou HM5.out.c4 (by decide))
      have hc56 := blk_row HM5.out.c5 hg6 (own_apart HM5.out.ou HM5.out.c5 (by decide))
      have h66 := blk_row H65.out hg6 (own_apart HM5.out.ou H65.out (by decide))
      have hby6 := HBY5.out.kept hg6 (apart_base HBY5.out huA)
      have hsl6 : SlR w6 (.slice (some ⟨p6, 0, none⟩) 1 1) 132 1 (blkC b) := NewSl.sl (sz := 132) (b0 := 0) (e := 54) (cs := blkC b) ⟨_, rfl, Nat.zero_le _, hp6⟩ (by rw [h132]) (by unfold maxLen; decide)
      refine Agg.heldAppend tiBl (.tmp 38) (.tmp 41) (i := 7) (by decide +kernel) rfl rfl rfl rfl wB.heap.size (v := .slice vx k vc) rfl hov6 rfl hsl6 (blkC_one b) (by unfold maxLen; omega) (by omega) (Nat.le_trans hzs hg6.size)
        (fun v7 w7 ho7 hg7 _ => ⟨⟨blk_row hc36 hg7 (own_apart hov6 hc36 (by decide)), blk_row hc46 hg7 (own_apart hov6 hc46 (by decide)), blk_row h66 hg7 (own_apart hov6 h66 (by decide))⟩, ?_⟩)
      simp only [List.set_cons_succ, List.set_cons_zero]
      obtain ⟨v7x, v7c, rfl, _, _⟩ := (ownSl ho7).shape
      have hou7 := ho6.kept hg7 (own_own ho6 hov6 (by decide))
      have hc37 := blk_row hc36 hg7 (own_apart hov6 hc36 (by decide))
      have hc47 := blk_row hc46 hg7 (own_apart hov6 hc46 (by decide))
      have hc57 := blk_row hc56 hg7 (own_apart hov6 hc56 (by decide))
      have h67 := blk_row h66 hg7 (own_apart hov6 h66 (by decide))
      have hby7 := hby6.kept hg7 (apart_base hby6 hvA)
      refine Agg.heldDone (by decide +kernel) ?_
      refine ⟨rfl, ?_⟩
      simp only [List.drop_succ_cons, List.drop_zero]
      go_wp2_with (first
        | (refine Agg.gStoreCell 0 (.slice u6x ((grp f p0 k).length + mm) u6c) hc37 rfl rfl rfl rfl rfl (by kernel_rfl) rfl (by simp) rfl (fun w8 hb8 hg8 => ?_))
        | (refine Agg.gStoreCell 0 (.slice v7x (k + 1) v7c) (hc47.far' hg8 (by omega)) rfl rfl rfl rfl rfl (by kernel_rfl) rfl (by simp) rfl (fun w9 hb9 hg9 => ?_)))
      simp only [spliced, List.take_zero, List.drop_succ_cons, List.nil_append, List.drop_nil, List.append_nil, List.length_cons, List.length_nil, List.drop_zero] at hb8 hb9
      have hc48 := hc47.far' hg8 (by omega)
      have hfl : (blkTo f p0 k).flatMap blkC ++ blkC b = (blkTo f p0 (k + 1)).flatMap blkC := by rw [HBS.out, List.flatMap_append]; simp
      have hgl2 : (grp f p0 (k + 1)).length = (grp f p0 k).length + mm := by rw [HGS.out, List.length_append, List.length_drop, HML.out]; omega
      have hgb2 : bv (grp f p0 (k + 1)) = bv (grp f p0 k) ++ bv ((pData b).drop 2) := by rw [HGS.out, bv_append]
      have hou8 := hou7.kept hg8 (own_apart hou7 hc37 (by decide))
      have hou9 := hou8.kept hg9 (own_apart hou8 hc48 (by decide))
      have hov8 := ho7.kept hg8 (own_apart ho7 hc37 (by decide))
      have hov9 := hov8.kept hg9 (own_apart hov8 hc48 (by decide))
      have hc58 := hc57.far' hg8 (by omega)
      have h68 := h67.far' hg8 (blk_ne h67 hc37 (by decide))
      have h69 := h68.far' hg9 (blk_ne h68 hc48 (by decide))
      have hby8 := hby7.kept hg8 (own_apart hby7 hc37 (by decide))
      have hby9 := hby8.kept hg9 (own_apart hby8 hc48 (by decide))
      have hbl6 := HM5.out.bel.trans (grown_below hg6 HM5.out.bel.size (fun j hj => Nat.le_trans HB.out.size (own_block HM5.out.ou j hj)))
      have hbl7 := hbl6.trans (grown_below hg7 hbl6.size (fun j hj => Nat.le_trans HB.out.size (own_block hov6 j hj)))
      have hbl8 := hbl7.trans (grown_below hg8 hbl7.size (fun j hj => by cases hj; omega))
      have hbl9 := hbl8.trans (grown_below hg9 hbl8.size (fun j hj => by cases hj; omega))
      have hs6 := hg6.size
      have hs7 := hg7.size
      have hs8 := hg8.size
      have hs9 := hg9.size
      have hs35 := HB35.out.size
      have HM9 : Hid (Met f p0 w.heap.size (w.heap.size + 1) (w.heap.size + 1 + 1) wB.heap.size w (k + 1) (stK f p0 (k + 1)) w9 (.slice u6x ((grp f p0 k).length + mm) u6c) (.slice v7x (k + 1) v7c)) := by
        refine Lib.hid ⟨hb8.far' hg9 (by omega), hb9, ?_, ?_, ?_, hbl9, by omega⟩
        · rw [HSN.out]; exact hc58.far' hg9 (by omega)
        · rw [hgl2, hgb2]; exact hou9
        · rw [← hfl]; exact hov9
      have HKF9 := Lib.hid (((((HKF.out.trans (Agg.keeps_below HB35.out)).trans (Agg.keeps_own HM5.out.ou hg6)).trans (Agg.keeps_own hov6 hg7)).trans (Agg.keeps_blk hc37 hg8)).trans (Agg.keeps_blk hc48 hg9))
      have HKP9 := Lib.hid (((((HKP.out.trans (KpP.below HB35.out (by omega) (by omega) (by omega))).trans (KpP.grown hg6 (by omega) (by omega) (by omega) (fun r e => by have := own_block HM5.out.ou r e; omega))).trans (KpP.grown hg7 (by omega) (by omega) (by omega) (fun r e => by have := own_block hov6 r e; omega))).trans (KpP.grown hg8 (by omega) (by omega) (by omega) (fun r e => by cases e; omega))).trans (KpP.grown hg9 (by omega) (by omega) (by omega) (fun r e => by cases e; omega)))
      obtain ⟨xb, xo, xc, hve, _, _, hcm, _⟩ := SlR.pos (ownSl hby9) (by decide) (by omega)
      simp only [Value.slice.injEq, true_and] at hve
      obtain ⟨rfl, rfl⟩ := hve
      have hc1 : w9.cell? ⟨xb, xo + 1, none⟩ = some (.int .u8 (manyB b : Int)) := hcm 1 _ (bv_getD (pData b) 1 (by rw [HML.out]; omega))
      have H69 := Lib.hid h69
      have HV9 := Lib.hid hb9
      clear hfl hgl2 hgb2 hou8 hou9 hov8 hov9 hc58 h68 h69 hby8 hby9 hbl6 hbl7 hbl8 hbl9 hcm hb8 hb9 hc36 hc37 hc46 hc47 hc48 hc56 hc57 h66 h67 hby6 hby7 hou7 hov6 ho6 ho7 hp6 hpz hg6 hg7 hg8 hg9 hsl6 HM5 H65 HBY5 HOW HB35 HKF HKP hz0
      refine wpIn_seq ?_
      obtain ⟨q, hq⟩ : ∃ q, decide (((k + 1 : Nat) : Int) ≥ (manyB b : Int)) = q := ⟨_, rfl⟩
      have HQ := Lib.hid hq
      clear hq
      have hm8 : manyB b ≤ 255 := by
        unfold manyB
        have := ((pData b).getD 1 0).toNat_lt
        omega
      refine Agg.chainRIn 8 (by kernel_rfl) rfl (by kernel_rfl) ?_
      simp only [List.take_succ_cons, List.take_zero, List.drop_succ_cons, List.drop_zero]
      refine Agg.chLoadB HV9.out (by decide +kernel) rfl rfl (by rfl) rfl rfl ?_
      refine Agg.chLen Try.underlying25 rfl rfl rfl rfl ?_
      refine Agg.chFA fo_Pt_0 rfl rfl rfl rfl ?_
      refine Agg.chLoadB H69.out (by decide +kernel) rfl rfl (by rfl) rfl rfl ?_
      refine Agg.chIA ti25 (by omega) (by omega) rfl rfl rfl rfl rfl ?_
      refine Agg.chLoad rfl rfl rfl rfl (by decide +kernel) hc1 ?_
      refine Agg.chInt (manyB b : Int) (by rw [IntKind.wrap_i64]; omega) (by kernel_rfl) Try.underlying3 rfl rfl rfl rfl ?_
      refine Agg.chGe (q) HQ.out rfl rfl rfl rfl rfl ?_
      refine Agg.chEnd ?_
      intro vs w10 hb10 _
      refine Agg.wpNil ?_
      simp only [List.reverse, List.reverseAux, Agg.fill, List.set_cons_succ, List.set_cons_zero]
      have hM10 := HM9.out.keep hb10
      have hK10 := HKF9.out.trans (Agg.keeps_below hb10)
      have hP10 := HKP9.out.trans (KpP.below hb10 (by omega) (by omega) (by omega))
      rw [hsB] at hM10 hK10
      have hq := HQ.out
      cases q
      · refine wpIn_cond_false rfl ?_
        refine wpIn_skip ?_
        refine ⟨hK10, hP10, ⟨_, _, hM10⟩, fun j hj => ?_⟩
        rw [decide_eq_false_iff_not] at hq
        by_cases hjk : j = k
        · rw [hjk, HMB.out]; omega
        · exact HJ.out j (by omega)
      · refine wpIn_cond_true rfl ?_
        refine wpIn_exit ?_
        rw [decide_eq_true_eq] at hq
        refine ⟨hK10, rfl, ⟨_, _, hM10⟩, fun j hj => HJ.out j (by omega), k, rfl, ?_⟩
        rw [HMB.out]; omega
    · rw [hs0] at HM2
      have c5 := HM2.out.c5.cell 0
      simp only [List.getElem?_cons_zero] at c5
      have hsn : ((pSt (f p0) : Int) == 0) = false := by simp; omega
      refine Agg.region_in (Agg.then_no (Agg.then_no (Agg.block_no Agg.roundEnd_no))) rfl ?_
      go_wp2_with fail
      refine wpIn_cond_false rfl ?_
      refine wpIn_skip ?_
      show Exit.then _ _ Exit.normal _ _
      have HKF := Lib.hid (KeepsFrom.refl wB.heap.size W2)
      have HKP : Hid (KpP w.heap.size (gd + 1) gd W2 W2) := Lib.hid ⟨Nat.le_refl _, Agr.refl _ _, rfl, rfl⟩
      have HM3 := HM2
      have H63 := H6
      have HBY3 := HBY
      clear hs0 c5 hsn HM2 H6 HBY
      have hs3 : W2.heap.size ≤ W2.heap.size := Nat.le_refl _
      obtain ⟨ux, uc, rfl, _, _⟩ := (ownSl HM3.out.ou).shape
      obtain ⟨vx, vc, rfl, _, _⟩ := (ownSl HM3.out.ov).shape
      refine wpIn_seq ?_
      have c60 := H63.out.cell 0
      simp only [List.getElem?_cons_zero] at c60
      refine Agg.region_in (Agg.then_no (Agg.block_no Agg.roundEnd_no)) rfl ?_
      go_wp2_with (refine Agg.make ti25 _ _ rfl rfl mm mm rfl rfl (by omega) (by omega) (Nat.le_refl _) (by omega) (by unfold maxLen; omega) ?_; simp only [Act.put, List.setIfInBounds_toArray, List.set_cons_succ, List.set_cons_zero])
      clear c60
      have hlit := World.ownsRow_lit (e := 5) (size := 1) (base := W2.heap.size) W2 (madeCells (Value.cells (.int .u8 0)) (mm * 1)) mm (Nat.le_refl _) (by unfold maxLen; omega) (size_madeCells _ _)
      have hxl : (madeCells (Value.cells (.int .u8 0)) (mm * 1)).toList.length = mm * 1 := by simp [size_madeCells]
      generalize (madeCells (Value.cells (.int .u8 0)) (mm * 1)) = zs at *
      have hb4 : Below W2.heap.size W2 (W2.alloc (.cells zs 5)) := (Below.refl _ _).alloc (Nat.le_refl _) _
      have c60 := (H63.out.keep hb4).cell 0
      simp only [List.getElem?_cons_zero] at c60
      have hby4 := ownSl (HBY3.out.keep hb4)
      obtain ⟨y3, c3, hsl, hr3⟩ := Agg.slR_rest ti25 (by decide) hby4 2 (by omega)
      have hbd : (bv (pData b)).drop (2 * 1) = bv ((pData b).drop 2) := (bv_drop _ _).symm
      rw [hbd] at hr3
      rw [Nat.add_sub_cancel] at hsl hr3
      generalize W2.alloc (.cells zs 5) = w4 at *
      refine wpIn_seq ?_
      refine Agg.region_in (Agg.then_no (Agg.block_no Agg.roundEnd_no)) rfl ?_
      go_wp2_with (first
        | (refine Agg.gSliceFrom (.slice y3 mm c3) rfl rfl rfl rfl hsl ?_; simp only [Act.put, List.setIfInBounds_toArray, List.set_cons_succ, List.set_cons_zero])
        | (refine Agg.copy ti25 _ _ rfl rfl hlit 0 mm mm rfl rfl rfl hr3 (bv_one _) mm (by simp) (by omega) (fun w5 ho5 hg5 => ?_); simp only [Act.put, List.setIfInBounds_toArray, List.set_cons_succ, List.set_cons_zero]))
      have ho5' := ho5.out
      have hdl : (bv ((pData b).drop 2)).length = mm * 1 := by rw [bv_length, List.length_drop, HML.out]; omega
      rw [spliced_all1 _ _ _ hxl hdl] at ho5'
      have hb5 : Below W2.heap.size W2 w5 := hb4.trans (grown_below hg5 hb4.size (fun j hj => by cases hj; exact Nat.le_refl _))
      have HOW := Lib.hid ho5'
      have HDL := Lib.hid hdl
      have HB35 := Lib.hid hb5
      have HM5 := Lib.hid (HM3.out.keep hb5)
      have H65 := Lib.hid (H63.out.keep hb5)
      have HBY5 := Lib.hid (HBY3.out.keep hb5)
      clear hlit hxl hb4 c60 hby4 hsl hr3 hbd ho5 ho5' hg5 hb5 hdl HM3 H63 HBY3
      refine wpIn_seq ?_
      refine Agg.heldTailIn (S := fun W => Blk W w.heap.size 37 [.slice ux (grp f p0 k).length uc] ∧ Blk W (w.heap.size + 1) 25 [.slice vx k vc] ∧ Blk W g6 97 (.slice x (mm + 2) c :: .int .u64 (pSt b : Int) :: blkC b)) 8 (by kernel_rfl) rfl (by kernel_rfl) ?_
      have hb0 : Below w5.heap.size w5 w5.drew := bel_drew (Below.refl _ _)
      replace HM5 := Lib.hid (HM5.out.keep hb0)
      replace H65 := Lib.hid (H65.out.keep hb0)
      replace HBY5 := Lib.hid (HBY5.out.keep hb0)
      replace HOW := Lib.hid (HOW.out.keep hb0)
      replace HB35 := Lib.hid (HB35.out.trans (hb0.mono HB35.out.size))
      clear hb0
      generalize w5.drew = z0 at *
      simp only [List.take_succ_cons, List.take_zero, List.replicate_succ, List.replicate_zero]
      have hk16 : k < 16 := by have := (lenF_spec f (16 - p0) p0).1; omega
      have h132 := bok_cells HBO.out
      have hz0 : Blk z0 w.heap.size 37 [.slice ux (grp f p0 k).length uc] ∧ Blk z0 (w.heap.size + 1) 25 [.slice vx k vc] ∧ Blk z0 g6 97 (.slice x (mm + 2) c :: .int .u64 (pSt b : Int) :: blkC b) := ⟨HM5.out.c3, HM5.out.c4, H65.out⟩
      refine Agg.heldTake (i := 0) (by decide +kernel) rfl rfl rfl (v := .slice ux (grp f p0 k).length uc) (fun W hW => Agg.run_ld (by decide +kernel) rfl rfl ((hW.1.cell 0).trans rfl)) hz0 ?_
      simp only [List.set_cons_succ, List.set_cons_zero]
      refine Agg.heldTake (i := 1) (by decide +kernel) rfl rfl rfl (v := .slice (some ⟨W2.heap.size, 0, none⟩) mm mm) (fun W hW => Agg.run_move rfl rfl) hz0 ?_
      simp only [List.set_cons_succ, List.set_cons_zero]
      refine Agg.heldTake (i := 3) (by decide +kernel) rfl rfl rfl (v := .slice vx k vc) (fun W hW => Agg.run_ld (by decide +kernel) rfl rfl ((hW.2.1.cell 0).trans rfl)) hz0 ?_
      simp only [List.set_cons_succ, List.set_cons_zero]
      refine Agg.heldTake (i := 4) (by decide +kernel) rfl rfl rfl (v := .pointer (some ⟨g6, 0 + 2, none⟩)) (fun W hW => Agg.run_fa fo_Pt_2 rfl rfl) hz0 ?_
      simp only [List.set_cons_succ, List.set_cons_zero]
      refine Agg.heldTake (i := 5) (by decide +kernel) rfl rfl rfl (v := .agg (blkC b).toArray) (fun W hW => Agg.run_rowB (0 + 2) 132 (blkC b) hW.2.2 (by simp only [Nat.zero_add, List.drop_succ_cons, List.drop_zero]; exact List.take_of_length_le (by omega)) h132 (by decide +kernel) rfl rfl) hz0 ?_
      simp only [List.set_cons_succ, List.set_cons_zero]
      have hgl := grp_len f p0 k HBK.out
      have hzs : wB.heap.size ≤ z0.heap.size := HM5.out.size
      refine Agg.heldPair ti25 (t2 := 25) (e2 := 54) (.tmp 35) (.tmp 36) (.tmp 40) (i := 2) (j := 6) (by decide +kernel) (by decide +kernel) (by decide +kernel) rfl rfl rfl rfl rfl rfl rfl rfl (by decide) (by decide) (fun _ => rfl) (fun _ => rfl) (fun _ => rfl) wB.heap.size rfl HM5.out.ou rfl (ownSl HOW.out) (bv_one _) (by unfold maxLen; omega) (by omega) hzs (blkC b).toArray (fun W => by exact lit_blk b HBO.out W)
        (fun w' hg => ⟨blk_row HM5.out.c3 hg (own_apart HM5.out.ou HM5.out.c3 (by decide)), blk_row HM5.out.c4 hg (own_apart HM5.out.ou HM5.out.c4 (by decide)), blk_row H65.out hg (own_apart HM5.out.ou H65.out (by decide))⟩) (fun v6 p6 w6 ho6 hp6 hpz hg6 => ?_)
      simp only [List.set_cons_succ, List.set_cons_zero]
      obtain ⟨u6x, u6c, rfl, _, _⟩ := (ownSl ho6).shape
      have hov6 := HM5.out.ov.kept hg6 (own_own HM5.out.ov HM5.out.ou (by decide))
      have hc36 := blk_row HM5.out.c3 hg6 (own_apart HM5.out.ou HM5.out.c3 (by decide))
      have hc46 := blk_row HM5.out.c4 hg6 (own_apart HM5.out.ou HM5.out.c4 (by decide))
      have hc56 := blk_row HM5.out.c5 hg6 (own_apart HM5.out.ou HM5.out.c5 (by decide))
      have h66 := blk_row H65.out hg6 (own_apart HM5.out.ou H65.out (by decide))
      have hby6 := HBY5.out.kept hg6 (apart_base HBY5.out huA)
      have hsl6 : SlR w6 (.slice (some ⟨p6, 0, none⟩) 1 1) 132 1 (blkC b) := NewSl.sl (sz := 132) (b0 := 0) (e := 54) (cs := blkC b) ⟨_, rfl, Nat.zero_le _, hp6⟩ (by rw [h132]) (by unfold maxLen; decide)
      refine Agg.heldAppend tiBl (.tmp 38) (.tmp 41) (i := 7) (by decide +kernel) rfl rfl rfl rfl wB.heap.size (v := .slice vx k vc) rfl hov6 rfl hsl6 (blkC_one b) (by unfold maxLen; omega) (by omega) (Nat.le_trans hzs hg6.size)
        (fun v7 w7 ho7 hg7 _ => ⟨⟨blk_row hc36 hg7 (own_apart hov6 hc36 (by decide)), blk_row hc46 hg7 (own_apart hov6 hc46 (by decide)), blk_row h66 hg7 (own_apart hov6 h66 (by decide))⟩, ?_⟩)
      simp only [List.set_cons_succ, List.set_cons_zero]
      obtain ⟨v7x, v7c, rfl, _, _⟩ := (ownSl ho7).shape
      have hou7 := ho6.kept hg7 (own_own ho6 hov6 (by decide))
      have hc37 := blk_row hc36 hg7 (own_apart hov6 hc36 (by decide))
      have hc47 := blk_row hc46 hg7 (own_apart hov6 hc46 (by decide))
      have hc57 := blk_row hc56 hg7 (own_apart hov6 hc56 (by decide))
      have h67 := blk_row h66 hg7 (own_apart hov6 h66 (by decide))
      have hby7 := hby6.kept hg7 (apart_base hby6 hvA)
      refine Agg.heldDone (by decide +kernel) ?_
      refine ⟨rfl, ?_⟩
      simp only [List.drop_succ_cons, List.drop_zero]
      go_wp2_with (first
        | (refine Agg.gStoreCell 0 (.slice u6x ((grp f p0 k).length + mm) u6c) hc37 rfl rfl rfl rfl rfl (by kernel_rfl) rfl (by simp) rfl (fun w8 hb8 hg8 => ?_))
        | (refine Agg.gStoreCell 0 (.slice v7x (k + 1) v7c) (hc47.far' hg8 (by omega)) rfl rfl rfl rfl rfl (by kernel_rfl) rfl (by simp) rfl (fun w9 hb9 hg9 => ?_)))
      simp only [spliced, List.take_zero, List.drop_succ_cons, List.nil_append, List.drop_nil, List.append_nil, List.length_cons, List.length_nil, List.drop_zero] at hb8 hb9
      have hc48 := hc47.far' hg8 (by omega)
      have hfl : (blkTo f p0 k).flatMap blkC ++ blkC b = (blkTo f p0 (k + 1)).flatMap blkC := by rw [HBS.out, List.flatMap_append]; simp
      have hgl2 : (grp f p0 (k + 1)).length = (grp f p0 k).length + mm := by rw [HGS.out, List.length_append, List.length_drop, HML.out]; omega
      have hgb2 : bv (grp f p0 (k + 1)) = bv (grp f p0 k) ++ bv ((pData b).drop 2) := by rw [HGS.out, bv_append]
      have hou8 := hou7.kept hg8 (own_apart hou7 hc37 (by decide))
      have hou9 := hou8.kept hg9 (own_apart hou8 hc48 (by decide))
      have hov8 := ho7.kept hg8 (own_apart ho7 hc37 (by decide))
      have hov9 := hov8.kept hg9 (own_apart hov8 hc48 (by decide))
      have hc58 := hc57.far' hg8 (by omega)
      have h68 := h67.far' hg8 (blk_ne h67 hc37 (by decide))
      have h69 := h68.far' hg9 (blk_ne h68 hc48 (by decide))
      have hby8 := hby7.kept hg8 (own_apart hby7 hc37 (by decide))
      have hby9 := hby8.kept hg9 (own_apart hby8 hc48 (by decide))
      have hbl6 := HM5.out.bel.trans (grown_below hg6 HM5.out.bel.size (fun j hj => Nat.le_trans HB.out.size (own_block HM5.out.ou j hj)))
      have hbl7 := hbl6.trans (grown_below hg7 hbl6.size (fun j hj => Nat.le_trans HB.out.size (own_block hov6 j hj)))
      have hbl8 := hbl7.trans (grown_below hg8 hbl7.size (fun j hj => by cases hj; omega))
      have hbl9 := hbl8.trans (grown_below hg9 hbl8.size (fun j hj => by cases hj; omega))
      have hs6 := hg6.size
      have hs7 := hg7.size
      have hs8 := hg8.size
      have hs9 := hg9.size
      have hs35 := HB35.out.size
      have HM9 : Hid (Met f p0 w.heap.size (w.heap.size + 1) (w.heap.size + 1 + 1) wB.heap.size w (k + 1) (stK f p0 (k + 1)) w9 (.slice u6x ((grp f p0 k).length + mm) u6c) (.slice v7x (k + 1) v7c)) := by
        refine Lib.hid ⟨hb8.far' hg9 (by omega), hb9, ?_, ?_, ?_, hbl9, by omega⟩
        · rw [HSN.out]; exact hc58.far' hg9 (by omega)
        · rw [hgl2, hgb2]; exact hou9
        · rw [← hfl]; exact hov9
      have HKF9 := Lib.hid (((((HKF.out.trans (Agg.keeps_below HB35.out)).trans (Agg.keeps_own HM5.out.ou hg6)).trans (Agg.keeps_own hov6 hg7)).trans (Agg.keeps_blk hc37 hg8)).trans (Agg.keeps_blk hc48 hg9))
      have HKP9 := Lib.hid (((((HKP.out.trans (KpP.below HB35.out (by omega) (by omega) (by omega))).trans (KpP.grown hg6 (by omega) (by omega) (by omega) (fun r e => by have := own_block HM5.out.ou r e; omega))).trans (KpP.grown hg7 (by omega) (by omega) (by omega) (fun r e => by have := own_block hov6 r e; omega))).trans (KpP.grown hg8 (by omega) (by omega) (by omega) (fun r e => by cases e; omega))).trans (KpP.grown hg9 (by omega) (by omega) (by omega) (fun r e => by cases e; omega)))
      obtain ⟨xb, xo, xc, hve, _, _, hcm, _⟩ := SlR.pos (ownSl hby9) (by decide) (by omega)
      simp only [Value.slice.injEq, true_and] at hve
      obtain ⟨rfl, rfl⟩ := hve
      have hc1 : w9.cell? ⟨xb, xo + 1, none⟩ = some (.int .u8 (manyB b : Int)) := hcm 1 _ (bv_getD (pData b) 1 (by rw [HML.out]; omega))
      have H69 := Lib.hid h69
      have HV9 := Lib.hid hb9
      clear hfl hgl2 hgb2 hou8 hou9 hov8 hov9 hc58 h68 h69 hby8 hby9 hbl6 hbl7 hbl8 hbl9 hcm hb8 hb9 hc36 hc37 hc46 hc47 hc48 hc56 hc57 h66 h67 hby6 hby7 hou7 hov6 ho6 ho7 hp6 hpz hg6 hg7 hg8 hg9 hsl6 HM5 H65 HBY5 HOW HB35 HKF HKP hz0
      refine wpIn_seq ?_
      obtain ⟨q, hq⟩ : ∃ q, decide (((k + 1 : Nat) : Int) ≥ (manyB b : Int)) = q := ⟨_, rfl⟩
      have HQ := Lib.hid hq
      clear hq
      have hm8 : manyB b ≤ 255 := by
        unfold manyB
        have := ((pData b).getD 1 0).toNat_lt
        omega
      refine Agg.chainRIn 8 (by kernel_rfl) rfl (by kernel_rfl) ?_
      simp only [List.take_succ_cons, List.take_zero, List.drop_succ_cons, List.drop_zero]
      refine Agg.chLoadB HV9.out (by decide +kernel) rfl rfl (by rfl) rfl rfl ?_
      refine Agg.chLen Try.underlying25 rfl rfl rfl rfl ?_
      refine Agg.chFA fo_Pt_0 rfl rfl rfl rfl ?_
      refine Agg.chLoadB H69.out (by decide +kernel) rfl rfl (by rfl) rfl rfl ?_
      refine Agg.chIA ti25 (by omega) (by omega) rfl rfl rfl rfl rfl ?_
      refine Agg.chLoad rfl rfl rfl rfl (by decide +kernel) hc1 ?_
      refine Agg.chInt (manyB b : Int) (by rw [IntKind.wrap_i64]; omega) (by kernel_rfl) Try.underlying3 rfl rfl rfl rfl ?_
      refine Agg.chGe (q) HQ.out rfl rfl rfl rfl rfl ?_
      refine Agg.chEnd ?_
      intro vs w10 hb10 _
      refine Agg.wpNil ?_
      simp only [List.reverse, List.reverseAux, Agg.fill, List.set_cons_succ, List.set_cons_zero]
      have hM10 := HM9.out.keep hb10
      have hK10 := HKF9.out.trans (Agg.keeps_below hb10)
      have hP10 := HKP9.out.trans (KpP.below hb10 (by omega) (by omega) (by omega))
      rw [hsB] at hM10 hK10
      have hq := HQ.out
      cases q
      · refine wpIn_cond_false rfl ?_
        refine wpIn_skip ?_
        refine ⟨hK10, hP10, ⟨_, _, hM10⟩, fun j hj => ?_⟩
        rw [decide_eq_false_iff_not] at hq
        by_cases hjk : j = k
        · rw [hjk, HMB.out]; omega
        · exact HJ.out j (by omega)
      · refine wpIn_cond_true rfl ?_
        refine wpIn_exit ?_
        rw [decide_eq_true_eq] at hq
        refine ⟨hK10, rfl, ⟨_, _, hM10⟩, fun j hj => HJ.out j (by omega), k, rfl, ?_⟩
        rw [HMB.out]; omega
  · rintro D k W hD hkl hcase hDl
    have hkL : k ≤ lenF f p0 (16 - p0) := by rw [partsF_length] at hkl; exact hkl
    have hSM : StopAt f p0 k ∧ ∃ u v, Met f p0 w.heap.size (w.heap.size + 1) (w.heap.size + 1 + 1) wB.heap.size w k (stK f p0 k) W u v := by
      rcases hcase with ⟨hk1, u, v, hM, hall⟩ | ⟨u, v, hM, hall, j, hj1, hj2⟩
      · refine ⟨⟨by omega, fun i hi => HPK.out i (by omega), fun j hj => hall j (by omega), ?_⟩, u, v, hM⟩
        rw [partsF_length] at hk1
        by_cases h16 : k = 16 - p0
        · exact .inr (.inl h16)
        · refine .inr (.inr ?_)
          rw [hk1]
          exact (lenF_spec f (16 - p0) p0).2.2 (by omega)
      · exact ⟨⟨by omega, fun i hi => HPK.out i (by omega), hall, .inl ⟨j, hj1, hj2⟩⟩, u, v, hM⟩
    obtain ⟨hST, u, v, hM⟩ := hSM
    have hnx := nextG_stop (last := last) hST
    rw [HM.out] at hnx
    have HNX := Lib.hid hnx
    have hk16 : k ≤ 16 := by have := hST.le; omega
    have hok : okTo f p0 k = true := (okTo_iff _ _ _).2 hST.ok
    have HOK := Lib.hid hok
    have hst2 : stK f p0 k ≤ 4611686018427387904 := by
      unfold stK
      split
      · decide
      · exact pSt_le (HBK.out _)
    have hst3 : k ≠ 0 → stK f p0 k = pSt (f p0) := fun h => by unfold stK; rw [if_neg h]
    have hst4 : k = 0 → stK f p0 k = 0 := fun h => by unfold stK; rw [if_pos h]
    have HST3 := Lib.hid hst3
    have HST4 := Lib.hid hst4
    have hgl := grp_len f p0 k HBK.out
    have HBY : Hid (Bytes W u (grp f p0 k)) := Lib.hid (ownSl hM.ou)
    have HDA : Hid (DefAt W D) := Lib.hid hDl
    obtain ⟨ux, uc, rfl, _, _⟩ := (ownSl hM.ou).shape
    obtain ⟨vx, vc, rfl, _, _⟩ := (ownSl hM.ov).shape
    have HC3 := Lib.hid hM.c3
    have HC4 := Lib.hid hM.c4
    have HC5 := Lib.hid hM.c5
    have HOU := Lib.hid hM.ou
    have HOV := Lib.hid hM.ov
    have HBW := Lib.hid hM.bel
    have HRW := Lib.hid (HR0.out.keep hM.bel)
    have hszW := hM.size
    clear hST hM hnx hok hst3 hst4 hcase hkl hDl HIT2 HGA HGD H3 H4 H5 HPK HB hkL hle
    have HB := HBW
    clear HBW
    have hneed : ∃ mB : Nat, (mB : Int) = needL (grp f p0 k).length ∧ mB ≤ 20 := by
      refine ⟨(needL (grp f p0 k).length).toNat, ?_, ?_⟩ <;> (unfold needL; split <;> omega)
    obtain ⟨mB, hmB, hmB20⟩ := hneed
    have HMB := Lib.hid hmB
    clear hmB
    have hgl2 : (grp f p0 k).length ≤ 2000 := by omega
    obtain ⟨B, hBe⟩ : ∃ B, grp f p0 k = B := ⟨_, rfl⟩
    have HBE := Lib.hid hBe
    rw [hBe] at HBY HOU HMB hgl hgl2
    rw [hBe] at HC3
    obtain ⟨s, hs⟩ : ∃ s, stK f p0 k = s := ⟨_, rfl⟩
    rw [hs] at HC5 HST3 HST4 hst2
    clear hBe hs
    have xHC3_0 := HC3.out.cell 0
    have lHC3 := HC3.out.lt
    simp only [List.getElem?_cons_zero] at xHC3_0
    have xHC5_0 := HC5.out.cell 0
    have lHC5 := HC5.out.lt
    simp only [List.getElem?_cons_zero] at xHC5_0
    go_wp2_with fail
    clear xHC3_0 lHC3 xHC5_0 lHC5
    have HBQ := Lib.hid (fun W vb hB => blocks_any s B vb mB W hB (by omega) HMB.out (by omega))
    refine (HBQ.out W _ HBY.out).mono ?_
    rintro e w41 ⟨q1, rfl, hq, hb⟩
    replace HB := Lib.hid (HB.out.trans (hb.mono HB.out.size))
    replace HBY := Lib.hid (HBY.out.keep hb)
    replace HC3 := Lib.hid (HC3.out.keep hb)
    replace HC4 := Lib.hid (HC4.out.keep hb)
    replace HC5 := Lib.hid (HC5.out.keep hb)
    replace HOU := Lib.hid (HOU.out.keep hb)
    replace HOV := Lib.hid (HOV.out.keep hb)
    replace HRW := Lib.hid (HRW.out.keep hb)
    replace HDA := Lib.hid (HDA.out.keep hb)
    clear hb
    obtain ⟨qx, qc, rfl, _, _⟩ := (ownSl hq).shape
    have HQ := Lib.hid (ownSl hq)
    clear hq HBQ
    have HNIL : Hid (m = 0 → ∀ W' : World, Below w.heap.size w W' → DefAt W' D → ∃ u, (Ending.returned (.slice none 0 0)) = .returned u ∧ (W'.putObj D (.deferred none)).ownsRow w.heap.size 5 1 u (grp f p0 m).length (bv (grp f p0 m)) ∧ Blk (W'.putObj D (.deferred none)) gr 73 (rdC d px cx pc cc (p0 + m) (lastG last (pSt (f p0)) m)) ∧ w.grownBy (W'.putObj D (.deferred none)) (some gr)) := by
      refine Lib.hid ?_
      rintro h0 W' hb hDW
      have hT := Agg.shut_turn hDW hD
      have hb2 := hT.below hb (by omega)
      refine ⟨_, rfl, ?_, ?_, below_grownBy hb2 _⟩
      · rw [h0]; exact World.ownsRow_nil _ _ _ _
      · rw [h0, Nat.add_zero]; exact HR0.out.keep hb2
    go_upto_region 13 with (fail)
    by_cases h1 : s ≤ last
    · have h1b : decide ((s : Int) ≤ (last : Int)) = true := by simp; omega
      refine Agg.chainR 14 (by kernel_rfl) (by kernel_rfl) ?_
      simp only [List.take_succ_cons, List.take_zero, List.drop_succ_cons, List.drop_zero]
      refine Agg.chLoadB HC5.out (by decide +kernel) rfl rfl (by rfl) rfl rfl ?_
      refine Agg.chMove rfl rfl rfl rfl ?_
      refine Agg.chNil rfl rfl rfl rfl ?_
      refine Agg.chFA fo_Rd_0 rfl rfl rfl rfl ?_
      refine Agg.chFA fo_Lo_1 rfl rfl rfl rfl ?_
      refine Agg.chLoadB HRW.out (by decide +kernel) rfl rfl (by rfl) rfl rfl ?_
      refine Agg.chLe true h1b rfl rfl rfl rfl rfl ?_
      refine Agg.chMove rfl rfl rfl rfl ?_
      refine Agg.chSkip rfl rfl ?_
      refine Agg.chSkip rfl rfl ?_
      refine Agg.chSkip rfl rfl ?_
      refine Agg.chSkip rfl rfl ?_
      refine Agg.chSkip rfl rfl ?_
      refine Agg.chPick rfl rfl rfl rfl rfl ?_
      refine Agg.chEnd ?_
      intro vs w42 hb _
      refine Agg.wpNil ?_
      simp only [List.reverse, List.reverseAux, Agg.fill, List.set_cons_succ, List.set_cons_zero]
      replace HB := Lib.hid (HB.out.trans (hb.mono HB.out.size))
      replace HBY := Lib.hid (HBY.out.keep hb)
      replace HC3 := Lib.hid (HC3.out.keep hb)
      replace HC4 := Lib.hid (HC4.out.keep hb)
      replace HC5 := Lib.hid (HC5.out.keep hb)
      replace HOU := Lib.hid (HOU.out.keep hb)
      replace HOV := Lib.hid (HOV.out.keep hb)
      replace HRW := Lib.hid (HRW.out.keep hb)
      replace HDA := Lib.hid (HDA.out.keep hb)
      replace HQ := Lib.hid (HQ.out.keep hb)
      clear hb
      have hm0 : m = 0 := by
        have h := HNX.out
        rw [if_neg (fun h => by have h2 := try_last h.2; have h3 := HST3.out h.1; omega)] at h
        exact h
      have hDw := HDA.out
      have hnil := HNIL.out hm0 w42 HB.out hDw
      clear hm0
      go_wp2_with fail
      refine Agg.marks_ret1 (v := .slice none 0 0) hDw ?_ hnil
      simp [results, Try.results34, go_sem]
    · have h1b : decide ((s : Int) ≤ (last : Int)) = false := by simp; omega
      have hk0 : k ≠ 0 := fun h => by have := HST4.out h; omega
      have HK0 := Lib.hid hk0
      clear hk0
      by_cases h2 : mB = k
      · subst h2
        refine Agg.chainR 14 (by kernel_rfl) (by kernel_rfl) ?_
        simp only [List.take_succ_cons, List.take_zero, List.drop_succ_cons, List.drop_zero]
        refine Agg.chLoadB HC5.out (by decide +kernel) rfl rfl (by rfl) rfl rfl ?_
        refine Agg.chMove rfl rfl rfl rfl ?_
        refine Agg.chNil rfl rfl rfl rfl ?_
        refine Agg.chFA fo_Rd_0 rfl rfl rfl rfl ?_
        refine Agg.chFA fo_Lo_1 rfl rfl rfl rfl ?_
        refine Agg.chLoadB HRW.out (by decide +kernel) rfl rfl (by rfl) rfl rfl ?_
        refine Agg.chLe false h1b rfl rfl rfl rfl rfl ?_
        refine Agg.chMove rfl rfl rfl rfl ?_
        refine Agg.chMove rfl rfl rfl rfl ?_
        refine Agg.chLen Try.underlying25 rfl rfl rfl rfl ?_
        refine Agg.chLoadB HC4.out (by decide +kernel) rfl rfl (by rfl) rfl rfl ?_
        refine Agg.chLen Try.underlying25 rfl rfl rfl rfl ?_
        refine Agg.chNe false (by simp) rfl rfl rfl rfl rfl ?_
        refine Agg.chPick rfl rfl rfl rfl rfl ?_
        refine Agg.chEnd ?_
        intro vs w43 hb _
        refine Agg.wpNil ?_
        simp only [List.reverse, List.reverseAux, Agg.fill, List.set_cons_succ, List.set_cons_zero]
        replace HB := Lib.hid (HB.out.trans (hb.mono HB.out.size))
        replace HBY := Lib.hid (HBY.out.keep hb)
        replace HC3 := Lib.hid (HC3.out.keep hb)
        replace HC4 := Lib.hid (HC4.out.keep hb)
        replace HC5 := Lib.hid (HC5.out.keep hb)
        replace HOU := Lib.hid (HOU.out.keep hb)
        replace HOV := Lib.hid (HOV.out.keep hb)
        replace HRW := Lib.hid (HRW.out.keep hb)
        replace HDA := Lib.hid (HDA.out.keep hb)
        replace HQ := Lib.hid (HQ.out.keep hb)
        clear hb
        go_wp2_with fail
        have hs := HST3.out HK0.out
        subst hs
        have hSB := Lib.hid (fun i (hi : i < mB) => sameB_succ f p0 mB i)
        have hBG : (blkG (pSt (f p0)) B mB mB).length = mB := blkG_length _ _ _ _
        have HBG := Lib.hid (fun i (hi : i < (blkG (pSt (f p0)) B mB mB).length) => blkG_get (pSt (f p0)) B mB mB i hi)
        have HBOK := Lib.hid (blkG_bok (pSt (f p0)) B mB mB)
        have HLT : Hid (∀ b ∈ blkG (pSt (f p0)) B mB mB, (blkC b).length = 132) := Lib.hid (fun b hb => bok_cells (HBOK.out b hb))
        have HTL : Hid (∀ b ∈ blkTo f p0 mB, (blkC b).length = 132) := Lib.hid (fun b hb => by
          obtain ⟨i, _, rfl⟩ := List.mem_map.1 hb
          exact bok_cells (HBK.out _))
        have HQ2 : Hid (Blks w43 (.slice qx mB qc) (blkG (pSt (f p0)) B mB mB)) := Lib.hid (by
          show SlR _ _ _ _ _
          rw [blkG_length]; exact HQ.out)
        have HV2 : Hid (Blks w43 (.slice vx mB vc) (blkTo f p0 mB)) := Lib.hid (by
          show SlR _ _ _ _ _
          rw [blkTo_length]; exact ownSl HOV.out)
        clear hBG
        obtain ⟨wZ, hwZ⟩ : ∃ x, x = w43 := ⟨_, rfl⟩
        subst hwZ
        have HBZ := HB
        have HC3Z := HC3
        have HC4Z := HC4
        have HC5Z := HC5
        have HOUZ := HOU
        have HRWZ := HRW
        have HDAZ := HDA
        have HQ2Z := HQ2
        have HV2Z := HV2
        clear HB HBY HC3 HC4 HC5 HOU HRW HDA HQ2 HV2 HQ HOV
        go_loopw [70] (fun ix wr => ∃ i : Nat, i ≤ mB ∧ ix = .int .i64 i ∧ sameB f p0 mB i = true ∧ Below wZ.heap.size wZ wr) (fun ix _ => mB - (intOf ix).toNat)
        case atStart => exact ⟨0, by omega, rfl, rfl, Below.refl _ _⟩
        case round =>
          obtain ⟨i, hi, rfl, hsm, hb⟩ := hrel
          have HSM := Lib.hid hsm
          have HFW : Hid (From wZ wr) := Lib.hid hb
          have HB := Lib.hid (HBZ.out.trans (hb.mono HBZ.out.size))
          have HC3 := Lib.hid (HC3Z.out.keep hb)
          have HC4 := Lib.hid (HC4Z.out.keep hb)
          have HC5 := Lib.hid (HC5Z.out.keep hb)
          have HOU := Lib.hid (HOUZ.out.keep hb)
          have HRW := Lib.hid (HRWZ.out.keep hb)
          have HDA := Lib.hid (HDAZ.out.keep hb)
          have HQ2 := Lib.hid (SlR.keep HQ2Z.out hb)
          have HV2 := Lib.hid (SlR.keep HV2Z.out hb)
          clear hsm hb
          obtain ⟨wA, hwA⟩ : ∃ x, x = wr := ⟨_, rfl⟩
          subst hwA
          by_cases hlt : i < mB
          · go_upto_region 18 with (fail)
            obtain ⟨qb, qo, qc', hve, _, _, _, _⟩ := SlR.pos HQ2.out (by decide) (by rw [blkG_length]; omega)
            simp only [Value.slice.injEq, true_and] at hve
            obtain ⟨rfl, h9, rfl⟩ := hve
            clear h9
            obtain ⟨vb, vo, vc', hve, _, _, _, _⟩ := SlR.pos HV2.out (by decide) (by rw [blkTo_length]; omega)
            simp only [Value.slice.injEq, true_and] at hve
            obtain ⟨rfl, h9, rfl⟩ := hve
            clear h9
            have hi1 : i < (blkG (pSt (f p0)) B mB mB).length := by rw [blkG_length]; exact hlt
            have hi2 : i < (blkTo f p0 mB).length := by rw [blkTo_length]; exact hlt
            have hq1 := fun j v hv => blks_at HQ2.out HLT.out hi1 j v hv
            have hv1 := fun j v hv => blks_at HV2.out HTL.out hi2 j v hv
            have hb1 := HBOK.out _ (List.getElem_mem hi1)
            have hb2 := HBK.out (p0 + i)
            have he1 := HBG.out i hi1
            have he2 : (blkTo f p0 mB)[i] = f (p0 + i) := by simp [blkTo]
            rw [he2] at hv1
            rw [he1] at hb1 hq1
            have hss := sameB_succ f p0 mB i
            rw [HBE.out, HSM.out, Bool.true_and] at hss
            obtain ⟨x1, hx1⟩ : ∃ x, layL (partL B mB i) (pSt (f p0) + i) = x := ⟨_, rfl⟩
            obtain ⟨x2, hx2⟩ : ∃ x, f (p0 + i) = x := ⟨_, rfl⟩
            rw [hx1] at hb1 hq1 hss
            rw [hx2] at hb2 hv1 hss
            obtain ⟨q, hq⟩ : ∃ q, decide (x1 = x2) = q := ⟨_, rfl⟩
            rw [hq] at hss
            have HQQ := Lib.hid hq
            have HSS := Lib.hid hss
            have HX1 := Lib.hid hb1
            have HX2 := Lib.hid hb2
            clear hq hss hb1 hb2 he1 he2 hi1 hi2 hx1 hx2
            have HQ1 := Lib.hid hq1
            have HV1 := Lib.hid hv1
            clear hq1 hv1
            refine Agg.chainR 9 (by kernel_rfl) (by kernel_rfl) ?_
            simp only [List.take_succ_cons, List.take_zero, List.drop_succ_cons, List.drop_zero]
            refine Agg.chMove rfl rfl rfl rfl ?_
            refine Agg.chMove rfl rfl rfl rfl ?_
            refine Agg.chIA tiBl (by omega) (by omega) rfl rfl rfl rfl rfl ?_
            refine Agg.chRowAt 132 (blkC x1) (bok_cells HX1.out) (by decide +kernel) rfl rfl rfl rfl HQ1.out ?_
            refine Agg.chLoadB HC4.out (by decide +kernel) rfl rfl (by rfl) rfl rfl ?_
            refine Agg.chMove rfl rfl rfl rfl ?_
            refine Agg.chIA tiBl (by omega) (by omega) rfl rfl rfl rfl rfl ?_
            refine Agg.chRowAt 132 (blkC x2) (bok_cells HX2.out) (by decide +kernel) rfl rfl rfl rfl HV1.out ?_
            refine Agg.chBin (v := .bool (!q)) rfl rfl rfl rfl rfl (fun w => flatBlk.gd .neq _ _ _ _ w) (fun w => blk_neq x1 x2 HX1.out HX2.out q HQQ.out w) ?_
            refine Agg.chEnd ?_
            intro vs w61 hb _
            refine Agg.wpNil ?_
            simp only [List.reverse, List.reverseAux, Agg.fill, List.set_cons_succ, List.set_cons_zero]
            replace HB := Lib.hid (HB.out.trans (hb.mono HB.out.size))
            replace HFW := Lib.hid (HFW.out.keep hb)
            replace HC3 := Lib.hid (HC3.out.keep hb)
            replace HC4 := Lib.hid (HC4.out.keep hb)
            replace HC5 := Lib.hid (HC5.out.keep hb)
            replace HOU := Lib.hid (HOU.out.keep hb)
            replace HRW := Lib.hid (HRW.out.keep hb)
            replace HDA := Lib.hid (HDA.out.keep hb)
            replace HQ2 := Lib.hid (HQ2.out.keep hb)
            replace HV2 := Lib.hid (HV2.out.keep hb)
            clear hb
            cases q
            · have hm0 : m = 0 := by
                have h := HNX.out
                rw [if_neg (fun h => by
                  have h2 := (sameB_iff _ _ _ _).1 (try_same h.2)
                  have h3 : sameB f p0 mB (i + 1) = true := (sameB_iff _ _ _ _).2 (fun j hj => h2 j (by omega))
                  rw [HSS.out] at h3; cases h3)] at h
                exact h
              have hDw := HDA.out
              have hnil := HNIL.out hm0 w61 HB.out hDw
              clear hm0
              go_wp2_with fail
              refine Agg.marks_ret1 (v := .slice none 0 0) hDw ?_ hnil
              simp [results, Try.results34, go_sem]
            · go_wp2_with fail
              exact ⟨⟨i + 1, by omega, by go_num, HSS.out, HFW.out⟩, by simp [intOf]; omega⟩
          · obtain rfl : i = mB := by omega
            have hmi : m = i := by
              have h := HNX.out
              have ht : tryB f p0 last i = true := by
                unfold tryB
                simp only [Bool.and_eq_true, decide_eq_true_eq]
                exact ⟨⟨⟨HOK.out, by omega⟩, by rw [HBE.out]; exact HMB.out.symm⟩, HSM.out⟩
              rw [if_pos ⟨HK0.out, ht⟩] at h
              exact h
            have HMI := Lib.hid hmi
            clear hmi
            go_upto_region 21 with (fail)
            have hu1 : IntKind.u64.wrap (i : Int) = (i : Int) := u64_small (by omega) (by omega)
            have hu2 : some (IntKind.u64.wrap ((pSt (f p0) : Int) + (i : Int))) = some ((pSt (f p0) + i : Nat) : Int) := by rw [u64_small (by omega) (by omega)]; congr 1
            have hu3 : some (IntKind.u64.wrap (((pSt (f p0) + i : Nat) : Int) - 1)) = some ((pSt (f p0) + i - 1 : Nat) : Int) := by rw [u64_small (by omega) (by omega)]; congr 1; omega
            have hu4 : some (IntKind.i64.wrap ((p0 : Int) + (i : Int))) = some ((p0 + i : Nat) : Int) := congrArg some (by rw [IntKind.wrap_i64]; omega)
            refine Agg.heldBegin (S := fun W => Blk W (w.heap.size + 1) 25 [.slice vx i vc] ∧ Blk W (w.heap.size + 1 + 1) 29 [.int .u64 (pSt (f p0) : Int)]) 24 (by kernel_rfl) rfl ?_
            have hb0 : Below wA.heap.size wA wA.drew := bel_drew (Below.refl _ _)
            have hRz := HRW.out.keep hb0
            have hOz := HOU.out.keep hb0
            have hDz := HDA.out.keep hb0
            have hz0 : Blk wA.drew (w.heap.size + 1) 25 [.slice vx i vc] ∧ Blk wA.drew (w.heap.size + 1 + 1) 29 [.int .u64 (pSt (f p0) : Int)] := ⟨HC4.out.keep hb0, HC5.out.keep hb0⟩
            have h3z := HC3.out.keep hb0
            have hBz := HB.out.trans (hb0.mono HB.out.size)
            generalize wA.drew = z0 at *
            simp only [List.replicate_succ, List.replicate_zero]
            refine Agg.heldTake (i := 0) (by decide +kernel) rfl rfl rfl (v := .pointer (some ⟨gr, 0, none⟩)) (fun W hW => Agg.run_move rfl rfl) hz0 ?_
            simp only [List.set_cons_succ, List.set_cons_zero]
            refine Agg.heldTake (i := 1) (by decide +kernel) rfl rfl rfl (v := .pointer (some ⟨gr, 0, none⟩)) (fun W hW => Agg.run_move rfl rfl) hz0 ?_
            simp only [List.set_cons_succ, List.set_cons_zero]
            refine Agg.heldTake (i := 2) (by decide +kernel) rfl rfl rfl (v := .pointer (some ⟨gr, 0, none⟩)) (fun W hW => Agg.run_move rfl rfl) hz0 ?_
            simp only [List.set_cons_succ, List.set_cons_zero]
            refine Agg.heldTake (i := 3) (by decide +kernel) rfl rfl rfl (v := .pointer (some ⟨gr, 0, none⟩)) (fun W hW => Agg.run_nil rfl rfl) hz0 ?_
            simp only [List.set_cons_succ, List.set_cons_zero]
            refine Agg.heldTake (i := 4) (by decide +kernel) rfl rfl rfl (v := .pointer (some ⟨gr, 0 + 0, none⟩)) (fun W hW => Agg.run_fa fo_Rd_0 rfl rfl) hz0 ?_
            simp only [List.set_cons_succ, List.set_cons_zero]
            refine Agg.heldTake (i := 5) (by decide +kernel) rfl rfl rfl (v := .pointer (some ⟨gr, 0 + 0 + 0, none⟩)) (fun W hW => Agg.run_fa fo_Lo_0 rfl rfl) hz0 ?_
            simp only [List.set_cons_succ, List.set_cons_zero]
            refine Agg.heldTake (i := 7) (by decide +kernel) rfl rfl rfl (v := .slice vx i vc) (fun W hW => Agg.run_ld (by decide +kernel) rfl rfl ((hW.1.cell 0).trans rfl)) hz0 ?_
            simp only [List.set_cons_succ, List.set_cons_zero]
            refine Agg.heldTake (i := 8) (by decide +kernel) rfl rfl rfl (v := .int .i64 (i : Int)) (fun W hW => Agg.run_len Try.underlying25 rfl rfl) hz0 ?_
            simp only [List.set_cons_succ, List.set_cons_zero]
            refine Agg.heldTake (i := 10) (by decide +kernel) rfl rfl rfl (v := .int .u64 (pSt (f p0) : Int)) (fun W hW => Agg.run_ld (by decide +kernel) rfl rfl ((hW.2.cell 0).trans rfl)) hz0 ?_
            simp only [List.set_cons_succ, List.set_cons_zero]
            refine Agg.heldTake (i := 11) (by decide +kernel) rfl rfl rfl (v := .slice vx i vc) (fun W hW => Agg.run_ld (by decide +kernel) rfl rfl ((hW.1.cell 0).trans rfl)) hz0 ?_
            simp only [List.set_cons_succ, List.set_cons_zero]
            refine Agg.heldTake (i := 12) (by decide +kernel) rfl rfl rfl (v := .int .i64 (i : Int)) (fun W hW => Agg.run_len Try.underlying25 rfl rfl) hz0 ?_
            simp only [List.set_cons_succ, List.set_cons_zero]
            refine Agg.heldTake (i := 13) (by decide +kernel) rfl rfl rfl (v := .int .u64 (i : Int)) (fun W hW => Agg.run_cv (i : Int) hu1 (by kernel_rfl) Try.underlying29 rfl rfl) hz0 ?_
            simp only [List.set_cons_succ, List.set_cons_zero]
            refine Agg.heldTake (i := 14) (by decide +kernel) rfl rfl rfl (v := .int .u64 (pSt (f p0) + i : Nat)) (fun W hW => Agg.run_ar ((pSt (f p0) + i : Nat) : Int) rfl rfl rfl hu2) hz0 ?_
            simp only [List.set_cons_succ, List.set_cons_zero]
            refine Agg.heldTake (i := 15) (by decide +kernel) rfl rfl rfl (v := .int .u64 (pSt (f p0) + i - 1 : Nat)) (fun W hW => Agg.run_ar ((pSt (f p0) + i - 1 : Nat) : Int) rfl rfl rfl hu3) hz0 ?_
            simp only [List.set_cons_succ, List.set_cons_zero]
            refine Agg.heldOne (i := 6) (by decide +kernel) rfl rfl rfl (v := .int .i64 (p0 : Int)) (w' := z0) (Agg.run_ld (by decide +kernel) rfl rfl ((hRz.cell 0).trans rfl)) hz0 ?_
            simp only [List.set_cons_succ, List.set_cons_zero]
            refine Agg.heldOne (i := 9) (by decide +kernel) rfl rfl rfl (v := .int .i64 ((p0 + i : Nat) : Int)) (w' := z0) (Agg.run_ar ((p0 + i : Nat) : Int) rfl rfl rfl hu4) hz0 ?_
            simp only [List.set_cons_succ, List.set_cons_zero]
            refine Agg.heldOne (i := 16) (by decide +kernel) rfl rfl rfl (v := .pointer (some ⟨gr, 0, none⟩)) (w' := z0) (Agg.run_nil rfl rfl) hz0 ?_
            simp only [List.set_cons_succ, List.set_cons_zero]
            refine Agg.heldOne (i := 17) (by decide +kernel) rfl rfl rfl (v := .pointer (some ⟨gr, 0 + 0, none⟩)) (w' := z0) (Agg.run_fa fo_Rd_0 rfl rfl) hz0 ?_
            simp only [List.set_cons_succ, List.set_cons_zero]
            refine Agg.heldOne (i := 18) (by decide +kernel) rfl rfl rfl (v := .pointer (some ⟨gr, 0 + 0 + 0, none⟩)) (w' := z0) (Agg.run_fa fo_Lo_0 rfl rfl) hz0 ?_
            simp only [List.set_cons_succ, List.set_cons_zero]
            refine Agg.heldSt (i := 19) (.int .i64 ((p0 + i : Nat) : Int)) [.int .i64 ((p0 + i : Nat) : Int)] hRz rfl (by kernel_rfl) (by simp) (by simp [Value.oneCell']) (by decide +kernel) rfl rfl rfl rfl rfl rfl (fun z1 hr1 hg1 => ?_)
            have hz1 : Blk z1 (w.heap.size + 1) 25 [.slice vx i vc] ∧ Blk z1 (w.heap.size + 1 + 1) 29 [.int .u64 (pSt (f p0) : Int)] := ⟨hz0.1.far' hg1 (by omega), hz0.2.far' hg1 (by omega)⟩
            refine ⟨hz1, ?_⟩
            simp only [spliced, List.take_zero, List.drop_succ_cons, List.nil_append, List.length_cons, List.length_nil, List.drop_zero, List.cons_append, Nat.zero_add] at hr1
            refine Agg.heldOne (i := 20) (by decide +kernel) rfl rfl rfl (v := .pointer (some ⟨gr, 0, none⟩)) (w' := z1) (Agg.run_nil rfl rfl) hz1 ?_
            simp only [List.set_cons_succ, List.set_cons_zero]
            refine Agg.heldOne (i := 21) (by decide +kernel) rfl rfl rfl (v := .pointer (some ⟨gr, 0 + 0, none⟩)) (w' := z1) (Agg.run_fa fo_Rd_0 rfl rfl) hz1 ?_
            simp only [List.set_cons_succ, List.set_cons_zero]
            refine Agg.heldOne (i := 22) (by decide +kernel) rfl rfl rfl (v := .pointer (some ⟨gr, 0 + 0 + 1, none⟩)) (w' := z1) (Agg.run_fa fo_Lo_1 rfl rfl) hz1 ?_
            simp only [List.set_cons_succ, List.set_cons_zero]
            refine Agg.heldSt (i := 23) (.int .u64 ((pSt (f p0) + i - 1 : Nat) : Int)) [.int .u64 ((pSt (f p0) + i - 1 : Nat) : Int)] hr1 rfl (by kernel_rfl) (by simp) (by simp [Value.oneCell']) (by decide +kernel) rfl rfl rfl rfl rfl rfl (fun z2 hr2 hg2 => ?_)
            refine ⟨⟨hz1.1.far' hg2 (by omega), hz1.2.far' hg2 (by omega)⟩, ?_⟩
            simp only [spliced, List.take_zero, List.take_succ_cons, List.drop_succ_cons, List.nil_append, List.length_cons, List.length_nil, List.drop_zero, List.cons_append, Nat.zero_add, Nat.reduceAdd] at hr2
            refine Agg.heldDone (by decide +kernel) ?_
            have hg12 := grown_same hg1 hg2
            have h3f := (h3z.far' hg1 (by omega)).far' hg2 (by omega)
            have hOf := (hOz.kept hg1 (own_off hOz (by omega))).kept hg2 (own_off (hOz.kept hg1 (own_off hOz (by omega))) (by omega))
            have hDf : DefAt z2 D := (hg12.block D (Array.getElem?_eq_some_iff.1 hDz).1 (fun e => by cases e; omega)).trans hDz
            have hT := Agg.shut_turn hDf hD
            have hgw := grown_turn (grown_same (below_grownBy hBz (some gr)) hg12) hT (by omega)
            have hRf := hT.blk hr2
            have hOx := own_base (hT.own hOf) (show w.heap.size ≤ wB.heap.size by omega)
            have hrd : rdC d px cx pc cc (p0 + m) (lastG last (pSt (f p0)) m) = [.int .i64 ((p0 + i : Nat) : Int), .int .u64 ((pSt (f p0) + i - 1 : Nat) : Int), .slice px d.pages.length pc, .slice cx d.cache.length cc, .int .i64 d.fuse, .bool d.off] := by
              rw [HMI.out]; unfold rdC lastG; rw [if_neg HK0.out]
            rw [← hrd] at hRf
            have hgg : grp f p0 m = B := by rw [HMI.out]; exact HBE.out
            rw [← hgg] at hOx h3f
            have HOX := Lib.hid hOx
            have HRF := Lib.hid hRf
            have HGW := Lib.hid hgw
            have HDF := Lib.hid hDf
            have c3 := h3f.cell 0
            simp only [List.getElem?_cons_zero] at c3
            clear hOx hRf hgw hDf hrd hT hOf h3f hg12 hr1 hr2 hg1 hg2 hz0 hz1 hRz hOz hDz h3z hBz hb0
            clear hgg
            go_wp2_with fail
            refine Agg.marks_ret1 (v := .slice ux (grp f p0 m).length uc) HDF.out ?_ ⟨_, rfl, HOX.out, HRF.out, HGW.out⟩
            simp [results, Try.results34, go_sem]
      · have h2b : ((mB : Int) != (k : Int)) = true := by simp; omega
        refine Agg.chainR 14 (by kernel_rfl) (by kernel_rfl) ?_
        simp only [List.take_succ_cons, List.take_zero, List.drop_succ_cons, List.drop_zero]
        refine Agg.chLoadB HC5.out (by decide +kernel) rfl rfl (by rfl) rfl rfl ?_
        refine Agg.chMove rfl rfl rfl rfl ?_
        refine Agg.chNil rfl rfl rfl rfl ?_
        refine Agg.chFA fo_Rd_0 rfl rfl rfl rfl ?_
        refine Agg.chFA fo_Lo_1 rfl rfl rfl rfl ?_
        refine Agg.chLoadB HRW.out (by decide +kernel) rfl rfl (by rfl) rfl rfl ?_
        refine Agg.chLe false h1b rfl rfl rfl rfl rfl ?_
        refine Agg.chMove rfl rfl rfl rfl ?_
        refine Agg.chMove rfl rfl rfl rfl ?_
        refine Agg.chLen Try.underlying25 rfl rfl rfl rfl ?_
        refine Agg.chLoadB HC4.out (by decide +kernel) rfl rfl (by rfl) rfl rfl ?_
        refine Agg.chLen Try.underlying25 rfl rfl rfl rfl ?_
        refine Agg.chNe true h2b rfl rfl rfl rfl rfl ?_
        refine Agg.chPick rfl rfl rfl rfl rfl ?_
        refine Agg.chEnd ?_
        intro vs w62 hb _
        refine Agg.wpNil ?_
        simp only [List.reverse, List.reverseAux, Agg.fill, List.set_cons_succ, List.set_cons_zero]
        replace HB := Lib.hid (HB.out.trans (hb.mono HB.out.size))
        replace HBY := Lib.hid (HBY.out.keep hb)
        replace HC3 := Lib.hid (HC3.out.keep hb)
        replace HC4 := Lib.hid (HC4.out.keep hb)
        replace HC5 := Lib.hid (HC5.out.keep hb)
        replace HOU := Lib.hid (HOU.out.keep hb)
        replace HOV := Lib.hid (HOV.out.keep hb)
        replace HRW := Lib.hid (HRW.out.keep hb)
        replace HDA := Lib.hid (HDA.out.keep hb)
        replace HQ := Lib.hid (HQ.out.keep hb)
        clear hb
        have hm0 : m = 0 := by
          have h := HNX.out
          rw [if_neg (fun h => by have h3 := try_need h.2; rw [HBE.out, ← HMB.out] at h3; omega)] at h
          exact h
        have hDw := HDA.out
        have hnil := HNIL.out hm0 w62 HB.out hDw
        clear hm0
        go_wp2_with fail
        refine Agg.marks_ret1 (v := .slice none 0 0) hDw ?_ hnil
        simp [results, Try.results34, go_sem]
end Go.Proofs.Ytlddjcilbpcciaa
