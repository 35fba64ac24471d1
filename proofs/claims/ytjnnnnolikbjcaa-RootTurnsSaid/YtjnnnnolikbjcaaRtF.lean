/-
  ROOTS: the one that holds: Find's closure.
-/
import Derived.Test.YtjnnnnolikbjcaaRtC
import Derived.Test.YtjnnnnolikbjcaaHeldIn
section
namespace Go.Proofs.Ytjnnnnolikbjcaa
open Go.ChangeShapes Go.WideShapes Go.ChangeAt Go.RowKit Agg Pg Dv
attribute [local go_sem] Oper.semAt_some

def bstR (b r : Rt) : Rt := if b.stamp < r.stamp then r else b
def bestL (l : List Rt) (k : Nat) : Rt := (l.take k).foldl bstR rt0
theorem bestL_succ (l : List Rt) (k : Nat) (h : k < l.length) : bestL l (k + 1) = bstR (bestL l k) l[k] := by
  unfold bestL; rw [List.take_succ_eq_append_getElem h, List.foldl_append]; rfl
theorem inR_stamp {d : Dev} (hg : DGood d) {s : Int} {r : Rt} (h : inR d s = some r) : RightR r := (inB_some (saysP_bok hg.pages hg.cache s) h).1
theorem best_find {d : Dev} (hg : DGood d) {o : Option Rt} (ho : findR d = o) : (o = none ∧ (bestL (stP d 2) (stP d 2).length).stamp = 0) ∨ (o = some (bestL (stP d 2) (stP d 2).length) ∧ 1 ≤ (bestL (stP d 2) (stP d 2).length).stamp) := by
  rw [← ho]
  unfold bestL findR
  rw [List.take_length]
  show (bestR (inR d 0) (inR d 1) = none ∧ (((inR d 0).toList ++ (inR d 1).toList).foldl bstR rt0).stamp = 0) ∨ _
  have e2 : stP d 2 = (inR d 0).toList ++ (inR d 1).toList := rfl
  rw [e2]
  cases ha : inR d 0 with
  | none =>
    cases hb : inR d 1 with
    | none => exact .inl ⟨rfl, rfl⟩
    | some b =>
      have h1 := (inR_stamp hg hb).stamp.1
      have e : ([] ++ [b]).foldl bstR rt0 = b := by show (if rt0.stamp < b.stamp then b else rt0) = b; rw [if_pos (by show 0 < b.stamp; omega)]
      refine .inr ⟨?_, ?_⟩
      · show some b = some (([] ++ [b]).foldl bstR rt0); rw [e]
      · show 1 ≤ (([] ++ [b]).foldl bstR rt0).stamp; rw [e]; exact h1
  | some a =>
    have h1 := (inR_stamp hg ha).stamp.1
    have e0 : bstR rt0 a = a := by unfold bstR; rw [if_pos (by show 0 < a.stamp; omega)]
    cases hb : inR d 1 with
    | none =>
      have e : ([a] ++ []).foldl bstR rt0 = a := e0
      refine .inr ⟨?_, ?_⟩
      · show some a = some (([a] ++ []).foldl bstR rt0); rw [e]
      · show 1 ≤ (([a] ++ []).foldl bstR rt0).stamp; rw [e]; exact h1
    | some b =>
      have e : ([a] ++ [b]).foldl bstR rt0 = bstR a b := by show bstR (bstR rt0 a) b = _; rw [e0]
      refine .inr ⟨?_, ?_⟩
      · show bestR (some a) (some b) = some (([a] ++ [b]).foldl bstR rt0)
        rw [e, bestR_two]; unfold bstR; split <;> rfl
      · show 1 ≤ (([a] ++ [b]).foldl bstR rt0).stamp
        rw [e]; unfold bstR; split <;> omega
structure FnI (w : World) (g1 g3 n1 : Nat) (W : World) (x : Option Addr) (c : Nat) (b : Rt) : Prop where
  c1 : Blk W g1 26 [.int .i64 0, .int .u64 0, .slice none 0 0, .int .i64 0]
  c3 : Blk W g3 26 [.int .i64 b.slot, .int .u64 (b.stamp : Int), .slice x b.pages.length c, .int .i64 b.bytes]
  own : W.ownsRow w.heap.size 3 1 (.slice x b.pages.length c) b.pages.length (iC b.pages)
  bel : Below w.heap.size w W
  size : n1 ≤ W.heap.size
theorem FnI.turn {w A B : World} {g1 g3 n1 c : Nat} {x : Option Addr} {b : Rt} (h : FnI w g1 g3 n1 A x c b) (hT : Turn n1 A B) (hn : w.heap.size ≤ n1) : FnI w g1 g3 n1 B x c b := by
  have hs : A.heap.size = B.heap.size := by obtain ⟨l, o, o', rfl, _⟩ := hT; exact World.putObj_size.symm
  exact ⟨hT.blk h.c1, hT.blk h.c3, hT.own h.own, hT.below h.bel hn, by have := h.size; omega⟩
theorem FnI.keep {w A B : World} {g1 g3 n1 c : Nat} {x : Option Addr} {b : Rt} (h : FnI w g1 g3 n1 A x c b) (hb : Below A.heap.size A B) : FnI w g1 g3 n1 B x c b :=
  ⟨h.c1.keep hb, h.c3.keep hb, own_keep h.own hb, h.bel.trans (hb.mono h.bel.size), Nat.le_trans h.size hb.size⟩
theorem KpR.below {n0 gd : Nat} {A B : World} (hb : Below A.heap.size A B) (h0 : n0 ≤ A.heap.size) (h1 : gd < A.heap.size) : KpR n0 gd A B := ⟨hb.size, fun k hk => hb.block k (by omega), hb.block _ h1⟩
theorem KpR.grown {n0 gd g : Nat} {A B : World} (hg : A.grownBy B (some g)) (h0 : n0 ≤ A.heap.size) (h1 : gd < A.heap.size) (hr : n0 ≤ g ∧ g ≠ gd) : KpR n0 gd A B :=
  ⟨hg.size, fun k hk => hg.block k (by omega) (fun e => by cases e; omega), hg.block _ h1 (fun e => by cases e; exact hr.2 rfl)⟩

set_option maxHeartbeats 4000000 in
set_option maxRecDepth 100000 in
theorem findC_any (d : Dev) (px cx : Option Addr) (pc cc g0 : Nat) (w : World) (hd : DGood d) (hc : d.cache.length ≤ 1000000) (hr : rightD d = true) (ho : d.off = false)
    (hD : DevR w (.agg #[.slice px d.pages.length pc, .slice cx d.cache.length cc, .int .i64 d.fuse, .bool d.off]) d) (hg0 : Blk w g0 30 [.slice px d.pages.length pc, .slice cx d.cache.length cc, .int .i64 d.fuse, .bool d.off])
    (o : Option Rt) (hfo : findR d = o) (ec : Int) (hec : (if o.isSome then (0 : Int) else 331) = ec) :
    Calls Try.prog 37 #[.pointer (some ⟨g0, 0, none⟩)] w fun e w' => ∃ v, e = .returned (.tuple #[v, .int .i64 ec]) ∧ RtO w.heap.size w' v (o.getD rt0) ∧ Below w.heap.size w w' := by
  have HBF := Lib.hid (best_find hd hfo)
  have HEC := Lib.hid hec
  have HD := Lib.hid hD
  have HG0 := Lib.hid hg0
  have HIT := Lib.hid (fun gd => standing_iter d px cx pc cc gd w hd hc hr ho hD)
  clear hd hr ho hD hg0 hfo hec
  have HB := Lib.hid (Below.refl w.heap.size w)
  refine Agg.calls_of_marks Try.func37 rfl ?_
  simp only [Try.ntmps37, List.size_toArray, List.length_cons, List.length_nil, Nat.reduceAdd, Nat.reduceSub, Array.replicate_succ, Array.replicate_zero, List.push_toArray, List.append_toArray, List.nil_append, List.cons_append]
  go_upto_region 2 with (fail)
  refine Agg.wp_at fun w1 hw1 => ?_
  have hb : Below w.heap.size w w1 := by rw [hw1.out]; repeat (first | exact Below.refl _ _ | refine Agg.bel_drew ?_ | refine Agg.bel_alloc ?_ _)
  replace HB := Lib.hid (HB.out.trans (hb.mono HB.out.size))
  replace HG0 := Lib.hid (HG0.out.keep hb)
  clear hb
  have H1 : Hid (Blk w1 w.heap.size 26 [.int .i64 0, .int .u64 0, .slice none 0 0, .int .i64 0]) := by show Blk _ _ _ _; rw [hw1.out]; exact (Blk.new w 26 #[.int .i64 0, .int .u64 0, .slice none 0 0, .int .i64 0]).al _
  have H3 : Hid (Blk w1 (w.heap.size + 1) 26 [.int .i64 0, .int .u64 0, .slice none 0 0, .int .i64 0]) := by show Blk _ _ _ _; rw [hw1.out]; exact Blk.newAt (w.alloc _) 26 #[.int .i64 0, .int .u64 0, .slice none 0 0, .int .i64 0] _ (by simp)
  clear hw1
  have hg0 := HG0.out
  have hl3 := H3.out.lt
  go_wp2_with (refine Agg.gLoadB 4 hg0 rfl rfl rfl rfl (by decide +kernel) ?_; simp only [Act.put, List.setIfInBounds_toArray, List.set_cons_succ, List.set_cons_zero])
  clear hg0
  refine (standing_any _ _ _ _ w1).mono ?_
  rintro e wB ⟨rfl, hgd, hb⟩
  obtain ⟨gd, hgdn⟩ : ∃ g, w1.heap.size = g := ⟨_, rfl⟩
  have hl3' : w.heap.size + 1 < gd := by omega
  have hgdl := hgd.lt
  rw [hgdn] at hgd hgdl ⊢
  have HB2 := Lib.hid (HB.out.trans (hb.mono HB.out.size))
  have H1B := Lib.hid (H1.out.keep hb)
  have H3B := Lib.hid (H3.out.keep hb)
  have HGD := Lib.hid hgd
  clear hgdn hb hgd HB H1 H3 HG0 hl3
  have hit := HIT.out gd
  have HIT2 := Lib.hid hit
  clear hit HIT
  go_wp2_with fail
  refine Agg.range_iterR rfl (Agg.enters Try.func65 (by kernel_rfl) rfl) HIT2.out (fun W h => ⟨Nat.le_trans HB2.out.size h.size, agr_below (HB2.out.trans (h.mono HB2.out.size)), HGD.out.keep h⟩)
    (fun A B h => ⟨none, below_grownBy h none, fun r e => by cases e⟩) (fun A B C h1 h2 => h1.trans h2) (fun A B h => ?_) (fun A W x vs h => ?_)
    (fun k W => ∃ x c, FnI w w.heap.size (w.heap.size + 1) wB.heap.size W x c (bestL (stP d 2) k)) (fun c k W => False)
    (fun k A B h hT => ?_) (fun c k A B h hT => h) (fun k A B h hab => ?_) (fun c k A B h hab => h) (fun W h => ?_) ?_ ?_ (fun D c k W _ _ h _ => h.elim)
  · obtain ⟨l', o', o'', rfl, hl, ho', hc'⟩ := h
    exact ⟨by rw [World.putObj_size]; exact Nat.le_refl _, fun k hk => World.putObj_heap_other (by have := HB2.out.size; omega), World.putObj_heap_other (by omega)⟩
  · obtain ⟨v, rfl, _⟩ := h
    rfl
  · obtain ⟨x, c, h1⟩ := h
    exact ⟨x, c, h1.turn hT HB2.out.size⟩
  · obtain ⟨x, c, h1⟩ := h
    exact ⟨x, c, h1.keep hab⟩
  · exact ⟨none, 0, H1B.out.keep h, H3B.out.keep h, World.ownsRow_nil _ _ _ _, HB2.out.trans (h.mono HB2.out.size), h.size⟩
  · rintro lr k hk A0 W vs hszk ⟨x, c, hM0⟩ habW ⟨v, rfl, sl, hvv, hvo⟩
    have hM := hM0.keep habW
    have hszA := habW.size
    have hsB := HB2.out.size
    obtain ⟨r, hrk⟩ : ∃ r, (stP d 2)[k] = r := ⟨_, rfl⟩
    have hbs := bestL_succ (stP d 2) k hk
    rw [hrk] at hvv hvo hbs
    obtain ⟨b, hb⟩ : ∃ b, bestL (stP d 2) k = b := ⟨_, rfl⟩
    rw [hb] at hM hbs
    unfold rtV at hvv
    subst hvv
    obtain ⟨x2, c2, rfl, _, _⟩ := (ownSl hvo).shape
    clear hM0 hb hrk
    refine Agg.region_in Agg.false_no rfl ?_
    simp only [List.zip_toArray, List.zip_cons_cons, List.zip_nil_left, List.zip_nil_right, List.foldl_toArray, List.foldl_cons, List.foldl_nil, List.setIfInBounds_toArray, List.set_cons_succ, List.set_cons_zero]
    go_wp2_with (first
      | (refine Agg.allocRow 26 #[.int .i64 0, .int .u64 0, .slice none 0 0, .int .i64 0] rfl rfl (by kernel_rfl) ?_; simp only [Act.put, List.setIfInBounds_toArray, List.set_cons_succ, List.set_cons_zero])
      | (refine Agg.gStoreNew 4 [.int .i64 r.slot, .int .u64 (r.stamp : Int), .slice x2 r.pages.length c2, .int .i64 r.bytes] rfl rfl rfl rfl rfl rfl (by decide +kernel) rfl rfl (by simp [Value.oneCell']) ?_; simp only [Act.put]))
    have hbX : Below W.heap.size W (W.alloc (.cells #[.int .i64 r.slot, .int .u64 (r.stamp : Int), .slice x2 r.pages.length c2, .int .i64 r.bytes] 26)) := (Below.refl _ _).alloc (Nat.le_refl _) _
    refine ⟨Agg.keeps_below hbX, KpR.below hbX (by omega) (by omega), fun W2 hT => ?_⟩
    have HM2 := Lib.hid ((hM.keep hbX).turn hT (by omega))
    have H4 := Lib.hid (hT.blk (Blk.new W 26 #[.int .i64 r.slot, .int .u64 (r.stamp : Int), .slice x2 r.pages.length c2, .int .i64 r.bytes]))
    have HO : Hid (W2.ownsRow w.heap.size 3 1 (.slice x2 r.pages.length c2) r.pages.length (iC r.pages)) := by
      have h2 := own_keep hvo hbX
      refine Lib.hid ?_
      obtain ⟨l', o', o'', rfl, hl', ho', hc'⟩ := hT
      exact own_base (Turn.own (B := 0) ⟨l', o', o'', rfl, Nat.zero_le _, ho', hc'⟩ h2) (by omega)
    have HBS := Lib.hid hbs
    have hs2 := HM2.out.size
    clear hM hbX hT hvo habW hszA hbs
    have H4L := H4.out.lt
    generalize W.heap.size = g4 at *
    refine wpIn_block ?_
    refine wpIn_seq ?_
    have c41 := H4.out.cell 1
    have c31 := HM2.out.c3.cell 1
    simp only [List.getElem?_cons_zero, List.getElem?_cons_succ] at c41 c31
    by_cases hlt : b.stamp < r.stamp
    · have hd1 : decide ((r.stamp : Int) > (b.stamp : Int)) = true := by simp; omega
      refine Agg.region_in (Agg.then_no (Agg.block_no Agg.roundEnd_no)) rfl ?_
      go_wp2_with fail
      clear c41 c31
      refine wpIn_cond_true rfl ?_
      refine Agg.region_in (Agg.block_no Agg.roundEnd_no) rfl ?_
      have h4 := H4.out
      have h3 := HM2.out.c3
      go_wp2_with (first
        | (refine Agg.gLoadB 4 h4 rfl rfl rfl rfl (by decide +kernel) ?_; simp only [Act.put, List.setIfInBounds_toArray, List.set_cons_succ, List.set_cons_zero])
        | (refine Agg.gStoreB 4 [.int .i64 r.slot, .int .u64 (r.stamp : Int), .slice x2 r.pages.length c2, .int .i64 r.bytes] h3 rfl rfl rfl rfl rfl (by decide +kernel) rfl rfl (by simp [Value.oneCell']) (fun w6 hb6 hg6 => ?_)))
      have e : bstR b r = r := by unfold bstR; rw [if_pos hlt]
      have h1 := HM2.out.c1.far' hg6 (show w.heap.size ≠ w.heap.size + 1 by omega)
      have hbl := HM2.out.bel
      show KeepsFrom _ _ _ ∧ _ ∧ _
      refine ⟨Agg.keeps_blk h3 hg6, KpR.grown hg6 (by omega) (by omega) ⟨by omega, by omega⟩, x2, c2, ?_⟩
      rw [HBS.out, e]
      exact ⟨h1, hb6, HO.out.kept hg6 (own_apart HO.out h3 (by decide)), hbl.trans (grown_below hg6 hbl.size (fun j e => by cases e; omega)), Nat.le_trans hs2 hg6.size⟩
    · have hd1 : decide ((r.stamp : Int) > (b.stamp : Int)) = false := by simp; omega
      refine Agg.region_in (Agg.then_no (Agg.block_no Agg.roundEnd_no)) rfl ?_
      go_wp2_with fail
      clear c41 c31
      refine wpIn_cond_false rfl ?_
      refine wpIn_skip ?_
      refine ⟨KeepsFrom.refl _ _, ⟨Nat.le_refl _, Agr.refl _ _, rfl⟩, x, c, ?_⟩
      have e : bstR b r = b := by unfold bstR; rw [if_neg hlt]
      rw [HBS.out, e]
      exact HM2.out
  · rintro D W hD ⟨x, c, hM⟩ hDl
    have hbf := HBF.out
    obtain ⟨b, hb⟩ : ∃ b, bestL (stP d 2) (stP d 2).length = b := ⟨_, rfl⟩
    rw [hb] at hM hbf
    clear hb
    have HM := Lib.hid hM
    have HDL := Lib.hid hDl
    have hbel := hM.bel.size
    have h1 := hM.c1
    have h3 := hM.c3
    have c31 := hM.c3.cell 1
    simp only [List.getElem?_cons_zero, List.getElem?_cons_succ] at c31
    clear hM hDl
    dsimp only
    rcases hbf with ⟨rfl, hz⟩ | ⟨rfl, hz⟩
    · obtain rfl : ec = 331 := by rw [← HEC.out]; rfl
      have hzz : ((b.stamp : Int) == 0) = true := by rw [hz]; rfl
      clear hz
      go_wp2_with (first
        | (refine Agg.gStoreB 4 [.int .i64 0, .int .u64 0, .slice none 0 0, .int .i64 0] h1 rfl rfl rfl rfl rfl (by decide +kernel) rfl rfl (by simp [Value.oneCell']) (fun w14 hb14 hg14 => ?_)))
      have hD4 : w14.heap[D]? = some (.deferred (some [])) := (hg14.block D (Array.getElem?_eq_some_iff.1 HDL.out).1 (fun e => by cases e; omega)).trans HDL.out
      have hT := Agg.shut_turn hD4 hD
      have hb4 := HM.out.bel.trans (grown_below hg14 hbel (fun j e => by cases e; exact Nat.le_refl _))
      exact Agg.marks_ret1 hD4 (results_row2 (m := 4) rfl (hT.blk hb14) rfl (by decide +kernel) rfl) ⟨_, rfl, rt0_o _ _, hT.below hb4 (by omega)⟩
    · obtain rfl : ec = 0 := by rw [← HEC.out]; rfl
      have hzz : ((b.stamp : Int) == 0) = false := by simp; omega
      clear hz
      go_wp2_with (first
        | (refine Agg.gLoadB 4 h3 rfl rfl rfl rfl (by decide +kernel) ?_; simp only [Act.put, List.setIfInBounds_toArray, List.set_cons_succ, List.set_cons_zero])
        | (refine Agg.gStoreB 4 [.int .i64 b.slot, .int .u64 (b.stamp : Int), .slice x b.pages.length c, .int .i64 b.bytes] h1 rfl rfl rfl rfl rfl (by decide +kernel) rfl rfl (by simp [Value.oneCell']) (fun w14 hb14 hg14 => ?_)))
      have hD4 : w14.heap[D]? = some (.deferred (some [])) := (hg14.block D (Array.getElem?_eq_some_iff.1 HDL.out).1 (fun e => by cases e; omega)).trans HDL.out
      have hT := Agg.shut_turn hD4 hD
      have hb4 := HM.out.bel.trans (grown_below hg14 hbel (fun j e => by cases e; exact Nat.le_refl _))
      exact Agg.marks_ret1 hD4 (results_row2 (m := 4) rfl (hT.blk hb14) rfl (by decide +kernel) rfl) ⟨_, rfl, ⟨_, rfl, hT.own (HM.out.own.kept hg14 (own_apart HM.out.own h1 (by decide)))⟩, hT.below hb4 (by omega)⟩
end Go.Proofs.Ytjnnnnolikbjcaa
end
section
/-
  ROOTS: ready: what is told of a device of which something may be asked; Find, In.
-/
namespace Go.Proofs.Ytjnnnnolikbjcaa
open Go.ChangeShapes Go.WideShapes Go.ChangeAt Go.RowKit Agg Pg Dv
attribute [local go_sem] Oper.semAt_some

theorem why_260 {d : Dev} (h : rightD d = false) : whyD d = 260 := by unfold whyD; rw [if_pos h]
theorem why_10 {d : Dev} (h : rightD d = true) (h2 : d.off = true) : whyD d = 10 := by unfold whyD; rw [if_neg (by rw [h]; decide), if_pos h2]
theorem why_0 {d : Dev} (h : rightD d = true) (h2 : d.off = false) : whyD d = 0 := by unfold whyD; rw [if_neg (by rw [h]; decide), if_neg (by rw [h2]; decide)]

set_option maxHeartbeats 4000000 in
set_option maxRecDepth 100000 in
theorem readyR_any (d : Dev) (dv : Value) (cf : FuncId) (caps : Array Value) (r : Rt) (e2 : Int) (w : World) (hd : DevR w dv d) (hg : DGood d) (hen : ∀ args w, (callFunc cf args).run Try.prog w = .ok (.enter cf args) w)
    (hcl : rightD d = true → d.off = false → ∀ W, Below w.heap.size w W → Calls Try.prog cf caps W fun e w' => ∃ v, e = .returned (.tuple #[v, .int .i64 e2]) ∧ RtO W.heap.size w' v r ∧ Below W.heap.size W w')
    (r3 : Rt) (e3 : Int) (hr3 : (if whyD d ≠ 0 then rt0 else r) = r3) (he3 : (if whyD d ≠ 0 then whyD d else e2) = e3) :
    Calls Try.prog 36 #[dv, .func (.func cf) #[] caps] w fun e w' => ∃ v, e = .returned (.tuple #[v, .int .i64 e3]) ∧ RtO w.heap.size w' v r3 ∧ Below w.heap.size w w' := by
  obtain ⟨px, pc, cx, cc, rfl⟩ := hd.shape
  have HCK := Lib.hid (fun W v h => check_R (w := W) (v := v) hg h)
  have HCL := Lib.hid hcl
  have HD := Lib.hid hd
  have HR3 := Lib.hid hr3
  have HE3 := Lib.hid he3
  clear hcl hd hr3 he3 hg
  obtain ⟨q, hq⟩ : ∃ q, rightD d = q := ⟨_, rfl⟩
  rw [hq] at HCK
  have HQ := Lib.hid hq
  clear hq
  have HB := Lib.hid (Below.refl w.heap.size w)
  go_enter Try.func36, Try.ntmps36
  go_upto_region 2 with (fail)
  refine Agg.wp_at fun w1 hw1 => ?_
  have hb : Below w.heap.size w w1 := by rw [hw1.out]; repeat (first | exact Below.refl _ _ | refine Agg.bel_drew ?_ | refine Agg.bel_alloc ?_ _)
  replace HB := Lib.hid (HB.out.trans (hb.mono HB.out.size))
  replace HD := Lib.hid (HD.out.keep hb)
  clear hb
  have H2 : Hid (Blk w1 w.heap.size 30 [.slice px d.pages.length pc, .slice cx d.cache.length cc, .int .i64 d.fuse, .bool d.off]) := by show Blk _ _ _ _; rw [hw1.out]; exact ((Blk.new w 30 #[.slice px d.pages.length pc, .slice cx d.cache.length cc, .int .i64 d.fuse, .bool d.off]).al _).al _
  have H4 : Hid (Blk w1 (w.heap.size + 1) 26 [.int .i64 0, .int .u64 0, .slice none 0 0, .int .i64 0]) := by show Blk _ _ _ _; rw [hw1.out]; exact (Blk.newAt (w.alloc _) 26 #[.int .i64 0, .int .u64 0, .slice none 0 0, .int .i64 0] _ (by simp)).al _
  have H6 : Hid (Blk w1 (w.heap.size + 1 + 1) 26 [.int .i64 0, .int .u64 0, .slice none 0 0, .int .i64 0]) := by show Blk _ _ _ _; rw [hw1.out]; exact Blk.newAt ((w.alloc _).alloc _) 26 #[.int .i64 0, .int .u64 0, .slice none 0 0, .int .i64 0] _ (by simp)
  clear hw1
  have h2 := H2.out
  go_wp2_with (refine Agg.gLoadB 4 h2 rfl rfl rfl rfl (by decide +kernel) ?_; simp only [Act.put, List.setIfInBounds_toArray, List.set_cons_succ, List.set_cons_zero])
  clear h2
  refine (HCK.out w1 _ HD.out).mono ?_
  rintro e w2 ⟨rfl, hb⟩
  replace HB := Lib.hid (HB.out.trans (hb.mono HB.out.size))
  replace HD := Lib.hid (HD.out.keep hb)
  replace H2 := Lib.hid (H2.out.keep hb)
  replace H4 := Lib.hid (H4.out.keep hb)
  replace H6 := Lib.hid (H6.out.keep hb)
  clear hb
  have hsz := HB.out.size
  have h4 := H4.out
  have h6 := H6.out
  cases q
  · have hw := why_260 HQ.out
    obtain rfl : e3 = 260 := by rw [← HE3.out, hw]; rfl
    obtain rfl : r3 = rt0 := by rw [← HR3.out, hw]; rfl
    clear hw
    go_wp2_with (first
      | (refine Agg.gLoadB 4 h6 rfl rfl rfl rfl (by decide +kernel) ?_; simp only [Act.put, List.setIfInBounds_toArray, List.set_cons_succ, List.set_cons_zero])
      | (refine Agg.gStoreB 4 [.int .i64 0, .int .u64 0, .slice none 0 0, .int .i64 0] h4 rfl rfl rfl rfl rfl (by decide +kernel) rfl rfl (by simp [Value.oneCell']) (fun w14 hb14 hg14 => ?_)))
    exact bodyPost_ret (results_row2 (m := 4) rfl hb14 rfl (by decide +kernel) rfl) rfl ⟨_, rfl, rt0_o _ _, HB.out.trans (grown_below hg14 hsz (fun j hj => by cases hj; omega))⟩
  · obtain ⟨qo, hqo⟩ : ∃ q, d.off = q := ⟨_, rfl⟩
    have HQO := Lib.hid hqo
    have c23 := H2.out.cell 3
    simp only [List.getElem?_cons_zero, List.getElem?_cons_succ] at c23
    rw [hqo] at c23
    clear hqo
    cases qo
    · have hw := why_0 HQ.out HQO.out
      obtain rfl : e3 = e2 := by rw [← HE3.out, hw]; rfl
      obtain rfl : r3 = r := by rw [← HR3.out, hw]; rfl
      have HC2 := Lib.hid (HCL.out HQ.out HQO.out w2 HB.out)
      clear hw h4 h6 HCL
      go_wp2_with fail
      clear c23
      refine HC2.out.mono ?_
      rintro e w9 ⟨v, rfl, hv, hb9⟩
      have HV := Lib.hid (hv.base hsz)
      obtain ⟨sl, hvv, hvo⟩ := hv
      unfold rtV at hvv
      subst hvv
      obtain ⟨x2, c2, rfl, _, _⟩ := (ownSl hvo).shape
      have h49 := H4.out.keep hb9
      have HB9 := Lib.hid (HB.out.trans (hb9.mono hsz))
      have hsz9 := HB9.out.size
      clear hvo hb9 HC2 HB
      go_wp2_with (first
        | (refine Agg.gStoreB 4 [.int .i64 r3.slot, .int .u64 (r3.stamp : Int), .slice x2 r3.pages.length c2, .int .i64 r3.bytes] h49 rfl rfl rfl rfl rfl (by decide +kernel) rfl rfl (by simp [Value.oneCell']) (fun w14 hb14 hg14 => ?_)))
      exact bodyPost_ret (results_row2 (m := 4) rfl hb14 rfl (by decide +kernel) rfl) rfl ⟨_, rfl, RtO.far HV.out h49 (by decide) hg14, HB9.out.trans (grown_below hg14 hsz9 (fun j hj => by cases hj; omega))⟩
    · have hw := why_10 HQ.out HQO.out
      obtain rfl : e3 = 10 := by rw [← HE3.out, hw]; rfl
      obtain rfl : r3 = rt0 := by rw [← HR3.out, hw]; rfl
      clear hw
      go_wp2_with (first
        | (refine Agg.gLoadB 4 h6 rfl rfl rfl rfl (by decide +kernel) ?_; simp only [Act.put, List.setIfInBounds_toArray, List.set_cons_succ, List.set_cons_zero])
        | (refine Agg.gStoreB 4 [.int .i64 0, .int .u64 0, .slice none 0 0, .int .i64 0] h4 rfl rfl rfl rfl rfl (by decide +kernel) rfl rfl (by simp [Value.oneCell']) (fun w14 hb14 hg14 => ?_)))
      exact bodyPost_ret (results_row2 (m := 4) rfl hb14 rfl (by decide +kernel) rfl) rfl ⟨_, rfl, rt0_o _ _, HB.out.trans (grown_below hg14 hsz (fun j hj => by cases hj; omega))⟩
end Go.Proofs.Ytjnnnnolikbjcaa
end
