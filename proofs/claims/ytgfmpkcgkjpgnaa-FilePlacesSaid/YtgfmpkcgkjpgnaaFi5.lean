/-
  FILES: the iterator over what is free.
-/
import Derived.Test.YtgfmpkcgkjpgnaaFi3
import Derived.Test.YtgfmpkcgkjpgnaaIter3
section
namespace Fi
open Go Go.RowKit Agg
theorem freeF_prefix (a : List Int) (p n : Nat) (h : 18 ≤ p) (h2 : p ≤ n) : ∃ r, freeF a n = freeF a p ++ r := by
  obtain ⟨d, rfl⟩ : ∃ d, n = p + d := ⟨n - p, by omega⟩
  clear h2
  induction d with
  | zero => exact ⟨[], by simp⟩
  | succ d ih =>
    obtain ⟨r, hr⟩ := ih
    exact ⟨r ++ (if inB a (p + d) then [] else [p + d]), by rw [← Nat.add_assoc, freeF_step a (p + d) (by omega), hr, List.append_assoc]⟩
theorem freeF_here (a : List Int) (p n : Nat) (h : 18 ≤ p) (h2 : p < n) (hi : inB a p = false) : ∃ h : (freeF a p).length < (freeF a n).length, (freeF a n)[(freeF a p).length] = p ∧ (freeF a (p + 1)).length = (freeF a p).length + 1 := by
  obtain ⟨r, hr⟩ := freeF_prefix a (p + 1) n (by omega) h2
  have hs := freeF_step a p h
  rw [hi] at hs
  simp only [Bool.false_eq_true, if_false] at hs
  have h1 : (freeF a n)[(freeF a p).length]? = some p := by
    rw [hr, hs, List.append_assoc, List.getElem?_append_right (Nat.le_refl _), Nat.sub_self]; rfl
  exact ⟨(List.getElem?_eq_some_iff.1 h1).1, (List.getElem?_eq_some_iff.1 h1).2, by rw [hs, List.length_append]; rfl⟩
theorem freeF_skip (a : List Int) (p : Nat) (h : 18 ≤ p) (hi : inB a p = true) : (freeF a (p + 1)).length = (freeF a p).length := by
  rw [freeF_step a p h, hi]; simp
theorem blk_below {B : Nat} {w w' : World} {g : Nat} {t : TypeId} {cs : List Value} (h : Blk w g t cs) (hb : Below B w w') (hg : g < B) : Blk w' g t cs := (hb.block g hg).trans h
/-- what a round leaves as it is -/
def KpM (kp km : Nat) (A B : World) : Prop := A.heap.size ≤ B.heap.size ∧ B.heap[kp]? = A.heap[kp]? ∧ B.heap[km]? = A.heap[km]?
theorem KpM.trans {kp km : Nat} {A B C : World} (h1 : KpM kp km A B) (h2 : KpM kp km B C) : KpM kp km A C := ⟨Nat.le_trans h1.1 h2.1, h2.2.1.trans h1.2.1, h2.2.2.trans h1.2.2⟩
end Fi
namespace Go.Proofs.Ytgfmpkcgkjpgnaa
open Go.ChangeShapes Go.WideShapes Go.ChangeAt Go.RowKit Agg Pg Dv Fi
attribute [local go_sem] Oper.semAt_some

set_option maxHeartbeats 4000000 in
set_option maxRecDepth 100000 in
theorem free_any (used : List Int) (v : Value) (pages : Int) (w : World) (hv : Ints w v used) :
    Calls Try.prog 34 #[v, .int .i64 pages] w fun e w' => ∃ kp km, e = .returned (.func (.func 65) #[] #[.pointer (some ⟨kp, 0, none⟩), .pointer (some ⟨km, 0, none⟩)]) ∧ (w.heap.size ≤ kp ∧ kp < km) ∧ Blk w' kp 3 [.int .i64 pages] ∧ Blk w' km 119 (marksC used) ∧ Below w.heap.size w w' := by
  obtain ⟨x, cap, rfl, _⟩ := SlR.shape hv
  have hln := hv.len
  have HV0 := Lib.hid hv
  clear hv
  have HB := Lib.hid (Below.refl w.heap.size w)
  go_enter Try.func34, Try.ntmps34
  go_upto_region 1 with (fail)
  refine Agg.wp_at fun w1 hw1 => ?_
  have hb : Below w.heap.size w w1 := by rw [hw1.out]; repeat (first | exact Below.refl _ _ | refine Agg.bel_drew ?_ | refine Agg.bel_alloc ?_ _)
  replace HB := Lib.hid (HB.out.trans (hb.mono HB.out.size))
  clear hb
  have HP : Hid (Blk w1 w.heap.size 3 [.int .i64 pages]) := by show Blk _ _ _ _; rw [hw1.out]; exact Blk.new w 3 #[.int .i64 pages]
  clear hw1
  have hpl := HP.out.lt
  go_upto_region 2 with (refine Agg.allocRow 119 (marksC []).toArray rfl rfl (by kernel_rfl) ?_; simp only [Act.put, List.setIfInBounds_toArray, List.set_cons_succ, List.set_cons_zero])
  refine Agg.wp_at fun w2 hw2 => ?_
  have hb : Below w1.heap.size w1 w2 := by rw [hw2.out]; repeat (first | exact Below.refl _ _ | refine Agg.bel_drew ?_ | refine Agg.bel_alloc ?_ _)
  replace HB := Lib.hid (HB.out.trans (hb.mono HB.out.size))
  replace HP := Lib.hid (HP.out.keep hb)
  clear hb
  have HM : Hid (Blk w2 w1.heap.size 119 (marksC [])) := by show Blk _ _ _ _; rw [hw2.out]; exact Blk.new w1 119 (marksC []).toArray
  clear hw2
  obtain ⟨km, hkm⟩ : ∃ n, w1.heap.size = n := ⟨_, rfl⟩
  obtain ⟨kp, hkp⟩ : ∃ n, w.heap.size = n := ⟨_, rfl⟩
  rw [hkm] at HM hpl ⊢
  rw [hkp] at HP hpl
  have hkw : w.heap.size ≤ kp := by omega
  rw [show (Value.pointer (some ⟨w.heap.size, 0, none⟩)) = .pointer (some ⟨kp, 0, none⟩) by rw [hkp]]
  clear hkm hkp
  go_wp2_with fail
  go_loopw [10] (fun ix wr => ∃ (k : Nat), k ≤ used.length ∧ ix = .int .i64 k ∧ Blk wr kp 3 [.int .i64 pages] ∧ Blk wr km 119 (marksC (used.take k)) ∧ Below w.heap.size w wr) (fun ix _ => used.length - (intOf ix).toNat)
  case atStart => exact ⟨0, by omega, rfl, HP.out, HM.out, HB.out⟩
  case round =>
    obtain ⟨k, hk, rfl, hp, hm, hb⟩ := hrel
    replace HP := Lib.hid hp
    replace HM := Lib.hid hm
    replace HB := Lib.hid hb
    have HV := Lib.hid (SlR.keep HV0.out hb)
    clear hp hm hb
    obtain ⟨wA, hwA⟩ : ∃ x, x = wr := ⟨_, rfl⟩
    subst hwA
    by_cases hlt : k < used.length
    · obtain ⟨b, o, cap', hve, _, _, _, _⟩ := SlR.pos HV.out (by decide) (by omega)
      simp only [Value.slice.injEq, true_and] at hve
      obtain ⟨rfl, rfl⟩ := hve
      have hcell := ints_at HV.out hlt
      have hst := List.take_succ_eq_append_getElem hlt
      obtain ⟨z, hz⟩ : ∃ y, used[k] = y := ⟨_, rfl⟩
      rw [hz] at hcell hst
      have HST := Lib.hid hst
      clear hst hz
      go_wp2_with fail
      clear hcell
      refine (mark_any (used.take k) z km wA HM.out _ rfl).mono ?_
      rintro e w9 ⟨rfl, hm9, hb9⟩
      have HP9 := Lib.hid (blk_below HP.out hb9 hpl)
      have HM9 := Lib.hid hm9
      have HB9 := Lib.hid (HB.out.trans (hb9.mono (by omega)))
      clear hm9 hb9
      rw [← HST.out] at HM9
      go_wp2_with fail
      exact ⟨⟨k + 1, by omega, by go_num, HP9.out, HM9.out, HB9.out⟩, by simp [intOf]; omega⟩
    · obtain rfl : k = used.length := by omega
      rw [List.take_length] at HM
      have hmf : ∀ (fn : Fn) (first cap : Array Value) (w : World), (Instr.makeFunc fn first cap).run Try.prog w = .ok (.func fn first cap) w := fun _ _ _ _ => rfl
      go_wp2_with fail
      go_ret
      exact ⟨kp, km, rfl, ⟨hkw, hpl⟩, HP.out, HM.out, HB.out⟩
set_option maxHeartbeats 4000000 in
set_option maxRecDepth 100000 in
theorem free1_iter (used : List Int) (n kp km : Nat) (hn : 18 ≤ n) (hn2 : n ≤ 256) :
    Iter Try.prog 65 #[.pointer (some ⟨kp, 0, none⟩), .pointer (some ⟨km, 0, none⟩)] (fun p : Nat => #[.int .i64 (p : Int)]) (fun A B => Below A.heap.size A B) (KpM kp km) (freeF used n) (fun W => Blk W kp 3 [.int .i64 (n : Int)] ∧ Blk W km 119 (marksC used)) := by
  intro lr J Jx W hok hJ hJx hY h0
  have HJ := Lib.hid hJ
  have HJX := Lib.hid hJx
  have HY := Lib.hid hY
  have HOK := Lib.hid hok
  have H00 := Lib.hid h0
  clear hJ hJx hY hok h0
  go_enter Try.func65, Try.ntmps65
  go_step3
  go_wp2_with fail
  go_step3
  go_wp2_with fail
  go_loopw [4] (fun i wr => ∃ p : Nat, 18 ≤ p ∧ p ≤ n ∧ i = .int .i64 p ∧ Blk wr kp 3 [.int .i64 (n : Int)] ∧ Blk wr km 119 (marksC used) ∧ J (freeF used p).length wr) (fun i _ => n - (intOf i).toNat)
  case atStart => exact ⟨18, by omega, by omega, rfl, HOK.out.1, HOK.out.2, H00.out⟩
  case round =>
    obtain ⟨p, hp1, hp2, rfl, hp, hm, hj⟩ := hrel
    have HP := Lib.hid hp
    have HM := Lib.hid hm
    have HJ1 := Lib.hid hj
    clear hp hm hj HOK H00
    obtain ⟨wA, hwA⟩ : ∃ x, x = wr := ⟨_, rfl⟩
    subst hwA
    have c0 := HP.out.cell 0
    simp only [List.getElem?_cons_zero] at c0
    by_cases hlt : p < n
    · have cm := HM.out.cell p
      rw [marksC_at _ _ (by omega)] at cm
      cases hi : inB used p
      · rw [hi] at cm
        obtain ⟨hkx, hxk, hnx⟩ := freeF_here used p n hp1 hlt hi
        have HNX := Lib.hid hnx
        obtain ⟨fn, tmps, assign, body, hy, hR⟩ := HY.out _ hkx wA HJ1.out
        rw [hxk] at hy
        clear hnx hxk hi
        go_upto_region 3 with (fail)
        refine (wpIn_wide (n := 2)).1 ?_
        gi_wp2
        refine hR.mono ?_
        rintro e W2 (⟨rfl, hj2, hk2⟩ | ⟨rfl, hjx2⟩)
        · have HJ3 := Lib.hid hj2
          have HK3 := Lib.hid hk2
          clear hj2 hk2 hR hy c0 cm
          gi_wp2
          go_wp2_with fail
          exact ⟨⟨p + 1, by omega, by omega, by go_num, (HK3.out.2.1).trans HP.out, (HK3.out.2.2).trans HM.out, by rw [HNX.out]; exact HJ3.out⟩, by simp [intOf]; omega⟩
        · have HJX2 := Lib.hid hjx2
          clear hjx2 hR hy c0 cm
          gi_wp2
          go_wp2_with fail
          rw [Exit.noGoto_normal]
          go_end0
          exact ⟨⟨_, rfl⟩, .inr ⟨_, hkx, HJX2.out⟩⟩
      · rw [hi] at cm
        have HSK := Lib.hid (freeF_skip used p hp1 hi)
        clear hi
        go_wp2_with fail
        exact ⟨⟨p + 1, by omega, by omega, by go_num, HP.out, HM.out, by rw [HSK.out]; exact HJ1.out⟩, by simp [intOf]; omega⟩
    · obtain rfl : p = n := by omega
      go_wp2_with fail
      rw [Exit.noGoto_normal]
      go_end0
      exact ⟨⟨_, rfl⟩, .inl HJ1.out⟩
end Go.Proofs.Ytgfmpkcgkjpgnaa
end
section
/-
  FILES: what is free, as a row.
-/
namespace Fi
open Go Go.RowKit Agg
theorem toI_length (l : List Nat) : (toI l).length = l.length := by simp [toI]
theorem own_weak {w : World} {b b' : Nat} {e : TypeId} {sz n : Nat} {v : Value} {xs : List Value} (h : w.ownsRow b e sz v n xs) (hb : b' ≤ b) : w.ownsRow b' e sz v n xs :=
  ⟨h.1, h.2.imp id (fun ⟨g, cap, cur, h1, h2, h3⟩ => ⟨g, cap, cur, h1, Nat.le_trans hb h2, h3⟩)⟩
theorem freeF_len (a : List Int) (n : Nat) : (freeF a n).length ≤ n - 18 := by
  unfold freeF
  exact Nat.le_trans (List.length_filter_le _ _) (by simp)
end Fi
namespace Go.Proofs.Ytgfmpkcgkjpgnaa
open Go.ChangeShapes Go.WideShapes Go.ChangeAt Go.RowKit Agg Pg Dv Fi
attribute [local go_sem] Oper.semAt_some

def nI (l : List Nat) : List Value := iC (toI l)
theorem nI_snoc {l : List Nat} {k : Nat} (h : k < l.length) : nI (l.take (k + 1)) = nI (l.take k) ++ [.int .i64 (l[k] : Int)] := by
  rw [List.take_succ_eq_append_getElem h]; unfold nI iC toI; rw [List.map_append, List.map_append]; rfl
theorem ints_of {w : World} {u : Value} {l : List Nat} (h : SlR w u 1 l.length (nI l)) : Ints w u (toI l) := by
  show SlR _ _ _ _ _
  rw [toI_length]; exact h
set_option maxHeartbeats 4000000 in
set_option maxRecDepth 100000 in
theorem Free_any (used : List Int) (v : Value) (pages : Int) (w : World) (hv : Ints w v used) :
    Calls Try.prog 11 #[v, .int .i64 pages] w fun e w' => ∃ u, e = .returned u ∧ w'.ownsRow w.heap.size 3 1 u (freeL used pages).length (nI (freeL used pages)) ∧ Below w.heap.size w w' := by
  obtain ⟨x, cap, rfl, _⟩ := SlR.shape hv
  have HV := Lib.hid hv
  clear hv
  obtain ⟨q, hq⟩ : ∃ q, sizeB pages = q := ⟨_, rfl⟩
  have HQ := Lib.hid hq
  clear hq
  obtain ⟨C, hC⟩ : ∃ C, freeL used pages = C := ⟨_, rfl⟩
  have HCL := Lib.hid hC
  rw [hC]
  clear hC
  have HB := Lib.hid (Below.refl w.heap.size w)
  refine Agg.calls_of_marks Try.func11 rfl ?_
  simp only [Try.ntmps11, List.size_toArray, List.length_cons, List.length_nil, Nat.reduceAdd, Nat.reduceSub, Array.replicate_succ, Array.replicate_zero, List.push_toArray, List.append_toArray, List.nil_append, List.cons_append]
  go_wp2_with fail
  refine (size_any pages w q HQ.out).mono ?_
  rintro e w1 ⟨rfl, hb⟩
  replace HB := Lib.hid (HB.out.trans (hb.mono HB.out.size))
  replace HV := Lib.hid (HV.out.keep hb)
  clear hb
  cases q
  · obtain rfl : C = [] := by rw [← HCL.out]; unfold freeL; rw [HQ.out]; rfl
    go_wp2_with fail
    refine Agg.marks_ret0 (v := .slice none 0 0) ?_ ⟨_, rfl, World.ownsRow_nil _ _ _ _, HB.out⟩
    simp [results, Try.results11, go_sem]
  · have hs := HQ.out
    unfold sizeB at hs
    rw [Bool.and_eq_true, decide_eq_true_eq, decide_eq_true_eq] at hs
    obtain ⟨n, rfl⟩ : ∃ n : Nat, pages = (n : Int) := ⟨pages.toNat, by omega⟩
    have hn1 : 18 ≤ n := by omega
    have hn2 : n ≤ 256 := by omega
    have hf : freeF used n = C := by rw [← HCL.out]; unfold freeL; rw [HQ.out]; rfl
    have hcl := freeF_len used n
    rw [hf] at hcl
    have HC := Lib.hid hf
    clear hs hf HCL
    have hsw1 := HB.out.size
    go_upto_region 4 with (fail)
    refine Agg.wp_at fun w2 hw2 => ?_
    have hb : Below w1.heap.size w1 w2 := by rw [hw2.out]; repeat (first | exact Below.refl _ _ | refine Agg.bel_drew ?_ | refine Agg.bel_alloc ?_ _)
    replace HB := Lib.hid (HB.out.trans (hb.mono HB.out.size))
    replace HV := Lib.hid (HV.out.keep hb)
    clear hb
    have HG : Hid (Blk w2 w1.heap.size 22 [.slice none 0 0]) := by show Blk _ _ _ _; rw [hw2.out]; exact Blk.new w1 22 #[.slice none 0 0]
    clear hw2
    have hgl := HG.out.lt
    obtain ⟨g, hgn⟩ : ∃ z, w1.heap.size = z := ⟨_, rfl⟩
    have hwg : w.heap.size ≤ g := by rw [← hgn]; exact hsw1
    rw [hgn] at HG hgl ⊢
    clear hgn
    go_wp2_with fail
    refine (free_any used _ n w2 HV.out).mono ?_
    rintro e wB ⟨kp, km, rfl, ⟨hk1, hk2⟩, hp, hm, hbB⟩
    have HGB := Lib.hid (HG.out.keep hbB)
    have HBB := Lib.hid (HB.out.trans (hbB.mono HB.out.size))
    have HPB := Lib.hid hp
    have HMB := Lib.hid hm
    have hkl := hm.lt
    clear hp hm hbB HG HB HV
    have hIT := free1_iter used n kp km hn1 hn2
    rw [HC.out] at hIT
    have HIT := Lib.hid hIT
    clear hIT
    go_wp2_with fail
    have hszW := HBB.out.size
    refine Agg.range_iter rfl (Agg.enters Try.func65 (by kernel_rfl) rfl) HIT.out (fun W h => ⟨HPB.out.keep h, HMB.out.keep h⟩)
      (fun A B h => ⟨none, ⟨h.os, h.tape, h.output, h.size, fun k hk _ => h.block k hk⟩, fun r e => by cases e⟩) (fun A B C h1 h2 => h1.trans h2) (fun A B h => ?_) (fun x => rfl)
      (fun k W => ∃ u, Blk W g 22 [u] ∧ W.ownsRow wB.heap.size 3 1 u k (nI (C.take k)) ∧ Below w.heap.size w W ∧ wB.heap.size ≤ W.heap.size) (fun _ _ _ => False)
      (fun k A B h hT => ?_) (fun _ _ _ _ h _ => h) (fun k A B h hab => ?_) (fun _ _ _ _ h _ => h) (fun W h => ?_) ?_ ?_ (fun _ _ _ _ _ _ h => h.elim)
    · obtain ⟨l', o, o', rfl, hl, ho, hc⟩ := h
      exact ⟨by rw [World.putObj_size]; exact Nat.le_refl _, World.putObj_heap_other (by omega), World.putObj_heap_other (by omega)⟩
    · obtain ⟨u, h1, h2, h3, h4⟩ := h
      have h6 := hT.below h3 hszW
      obtain ⟨l', o, o', rfl, hl, ho, hc⟩ := hT
      have hT : Turn wB.heap.size A (A.putObj l' o') := ⟨l', o, o', rfl, hl, ho, hc⟩
      exact ⟨u, hT.blk h1, hT.own h2, h6, by rw [World.putObj_size]; exact h4⟩
    · obtain ⟨u, h1, h2, h3, h4⟩ := h
      exact ⟨u, h1.keep hab, own_keep h2 hab, h3.trans (hab.mono h3.size), Nat.le_trans h4 hab.size⟩
    · exact ⟨_, HGB.out.keep h, World.ownsRow_nil _ _ _ _, HBB.out.trans (h.mono hszW), h.size⟩
    · rintro lr k hk W hszk ⟨u, h1, h2, h3, h4⟩
      obtain ⟨ux, uc, rfl, _, _⟩ := (ownSl h2).shape
      refine Agg.region_in Agg.false_no rfl ?_
      simp only [List.zip_toArray, List.zip_cons_cons, List.zip_nil_left, List.zip_nil_right, List.foldl_toArray, List.foldl_cons, List.foldl_nil, List.setIfInBounds_toArray, List.set_cons_succ, List.set_cons_zero]
      go_wp2_with fail
      refine ⟨KeepsFrom.refl _ _, ⟨Nat.le_refl _, rfl, rfl⟩, fun W2 hT => ?_⟩
      have HNC := Lib.hid (nI_snoc hk)
      obtain ⟨pn, hpe⟩ : ∃ z, C[k] = z := ⟨_, rfl⟩
      rw [hpe] at HNC ⊢
      have H1 := Lib.hid (hT.blk h1)
      have HD := Lib.hid (hT.own h2)
      have HBX := Lib.hid (hT.below h3 hszW)
      have hsW : W2.heap.size = W.heap.size := by obtain ⟨l, o, o', rfl, _⟩ := hT; exact World.putObj_size
      have HS2 : Hid (wB.heap.size ≤ W2.heap.size) := Lib.hid (by omega)
      clear h1 h2 h3 h4 hT hsW hszk HIT HBB HGB HPB HMB hpe
      refine wpIn_block ?_
      refine Agg.region_in (Agg.block_no Agg.roundEnd_no) rfl ?_
      have c0 := H1.out.cell 0
      simp only [List.getElem?_cons_zero] at c0
      have hbA : Below W2.heap.size W2 (W2.alloc (.cells #[.int .i64 (pn : Int)] 3)) := (Below.refl _ _).alloc (Nat.le_refl _) _
      have hC3 := own_keep HD.out hbA
      have hsl : SlR (W2.alloc (.cells #[.int .i64 (pn : Int)] 3)) (.slice (some ⟨W2.heap.size, 0, none⟩) 1 1) 1 1 [.int .i64 (pn : Int)] := NewSl.sl (b0 := 0) (e := 3) ⟨_, rfl, Nat.zero_le _, Blk.new W2 3 #[.int .i64 (pn : Int)]⟩ rfl (by unfold maxLen; decide)
      have hlw : wB.heap.size ≤ (W2.alloc (.cells #[.int .i64 (pn : Int)] 3)).heap.size := Nat.le_trans HS2.out hbA.size
      have hmx : k + 1 ≤ maxLen := by unfold maxLen; omega
      have hby : (k + 1) * 8 ≤ 140737488355328 := by omega
      have hone : ∀ u ∈ [Value.int .i64 (pn : Int)], u.oneCell' = true := by simp [Value.oneCell']
      have hT3 := H1.out.keep hbA
      have hne := own_apart hC3 hT3 (by decide)
      go_wp2_with (first
        | (refine Agg.append2 tiInt (.tmp 14) (.tmp 16) rfl rfl wB.heap.size (v := .slice ux k uc) rfl hC3 rfl hsl hone hmx hby hlw (fun v2 w4 hC4 hg4 hwh => ?_); obtain ⟨v2x, v2c, rfl, _, _⟩ := (ownSl hC4).shape; simp only [Act.put, List.setIfInBounds_toArray, List.set_cons_succ, List.set_cons_zero])
        | (refine Agg.gStoreCell 0 (.slice v2x (k + 1 : Nat) v2c) (blk_row hT3 hg4 hne) rfl rfl rfl rfl rfl (by kernel_rfl) rfl (by simp) rfl (fun w13 hb13 hg13 => ?_)))
      simp only [spliced, List.take_zero, List.drop_succ_cons, List.nil_append, List.drop_nil, List.append_nil, List.length_cons, List.length_nil] at hb13
      have hT4 := blk_row hT3 hg4 hne
      have hC13 := hC4.kept hg13 (own_apart hC4 hT4 (by decide))
      have hB4 := (HBX.out.trans (hbA.mono HBX.out.size)).trans (grown_below hg4 (Nat.le_trans hszW hlw) (fun j hj => Nat.le_trans hszW (own_block hC3 j hj)))
      have hB13 := hB4.trans (grown_below hg13 (Nat.le_trans (Nat.le_trans hszW hlw) hg4.size) (fun j hj => by cases hj; exact hwg))
      have hs13 : W2.heap.size ≤ w13.heap.size := Nat.le_trans hbA.size (Nat.le_trans hg4.size hg13.size)
      have hgb := grown_below hg4 hlw (own_block hC3)
      have hkk : ∀ c, c < wB.heap.size → c ≠ g → w13.heap[c]? = W2.heap[c]? := fun c hc hcg => by
        have e3 := hg13.block c (Nat.lt_of_lt_of_le hc (Nat.le_trans hlw hg4.size)) (fun e => hcg (by injection e))
        exact e3.trans ((hgb.block c hc).trans (hbA.block c (Nat.lt_of_lt_of_le hc HS2.out)))
      refine ⟨((Agg.keeps_below hbA).trans (Agg.keeps_own hC3 hg4)).trans (Agg.keeps_blk hT4 hg13), ⟨hs13, hkk kp (by omega) (by omega), hkk km (by omega) (by omega)⟩, ⟨_, hb13, ?_, hB13, Nat.le_trans HS2.out hs13⟩⟩
      rw [HNC.out]; exact hC13
    · rintro D W hD ⟨u, h1, h2, h3, h4⟩ hDl
      rw [List.take_length] at h2
      obtain ⟨ux, uc, rfl, _, _⟩ := (ownSl h2).shape
      have c0 := h1.cell 0
      simp only [List.getElem?_cons_zero] at c0
      have hT := Agg.shut_turn hDl hD
      have HA := Lib.hid (hT.own h2)
      have HCB := Lib.hid (hT.below h3 hszW)
      have HDl := Lib.hid hDl
      clear h1 h2 h3 h4 hT hDl
      go_wp2_with fail
      refine Agg.marks_ret1 (v := .slice ux C.length uc) HDl.out ?_ ⟨_, rfl, own_weak HA.out hszW, HCB.out⟩
      simp [results, Try.results11, go_sem]
end Go.Proofs.Ytgfmpkcgkjpgnaa
end
