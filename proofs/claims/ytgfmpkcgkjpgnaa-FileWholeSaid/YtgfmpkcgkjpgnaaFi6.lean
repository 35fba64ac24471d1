/-
  FILES: what is free, as a row.
-/
import Derived.Test.YtgfmpkcgkjpgnaaFi4
section
namespace Fi
open Go Go.RowKit Agg
theorem toI_length (l : List Nat) : (toI l).length = l.length := by simp [toI]
theorem own_weak {w : World} {b b' : Nat} {e : TypeId} {sz n : Nat} {v : Value} {xs : List Value} (h : w.ownsRow b e sz v n xs) (hb : b' ≤ b) : w.ownsRow b' e sz v n xs :=
  ⟨h.1, h.2.imp id (fun ⟨g, cap, cur, h1, h2, h3⟩ => ⟨g, cap, cur, h1, Nat.le_trans hb h2, h3⟩)⟩
theorem freeF_len (a : List Int) (n : Nat) : (freeF a n).length ≤ n - 18 := by
  unfold freeF
  exact Nat.le_trans (List.length_filter_le _ _) (by simp)
end Fi
namespace Go.Proofs.Ytgfmpkcgkjpgnaa
open Go.ChangeShapes Go.WideShapes Go.ChangeAt Go.RowKit Agg Pg Dv Fi
attribute [local go_sem] Oper.semAt_some

def nI (l : List Nat) : List Value := iC (toI l)
theorem nI_snoc {l : List Nat} {k : Nat} (h : k < l.length) : nI (l.take (k + 1)) = nI (l.take k) ++ [.int .i64 (l[k] : Int)] := by
  rw [List.take_succ_eq_append_getElem h]; unfold nI iC toI; rw [List.map_append, List.map_append]; rfl
theorem ints_of {w : World} {u : Value} {l : List Nat} (h : SlR w u 1 l.length (nI l)) : Ints w u (toI l) := by
  show SlR _ _ _ _ _
  rw [toI_length]; exact h
set_option maxHeartbeats 4000000 in
set_option maxRecDepth 100000 in
theorem Free_any (used : List Int) (v : Value) (pages : Int) (w : World) (hv : Ints w v used) :
    Calls Try.prog 11 #[v, .int .i64 pages] w fun e w' => ∃ u, e = .returned u ∧ w'.ownsRow w.heap.size 3 1 u (freeL used pages).length (nI (freeL used pages)) ∧ Below w.heap.size w w' := by
  obtain ⟨x, cap, rfl, _⟩ := SlR.shape hv
  have HV := Lib.hid hv
  clear hv
  obtain ⟨q, hq⟩ : ∃ q, sizeB pages = q := ⟨_, rfl⟩
  have HQ := Lib.hid hq
  clear hq
  obtain ⟨C, hC⟩ : ∃ C, freeL used pages = C := ⟨_, rfl⟩
  have HCL := Lib.hid hC
  rw [hC]
  clear hC
  have HB := Lib.hid (Below.refl w.heap.size w)
  refine Agg.calls_of_marks Try.func11 rfl ?_
  simp only [Try.ntmps11, List.size_toArray, List.length_cons, List.length_nil, Nat.reduceAdd, Nat.reduceSub, Array.replicate_succ, Array.replicate_zero, List.push_toArray, List.append_toArray, List.nil_append, List.cons_append]
  go_wp2_with fail
  refine (size_any pages w q HQ.out).mono ?_
  rintro e w1 ⟨rfl, hb⟩
  replace HB := Lib.hid (HB.out.trans (hb.mono HB.out.size))
  replace HV := Lib.hid (HV.out.keep hb)
  clear hb
  cases q
  · obtain rfl : C = [] := by rw [← HCL.out]; unfold freeL; rw [HQ.out]; rfl
    go_wp2_with fail
    refine Agg.marks_ret0 (v := .slice none 0 0) ?_ ⟨_, rfl, World.ownsRow_nil _ _ _ _, HB.out⟩
    simp [results, Try.results11, go_sem]
  · have hs := HQ.out
    unfold sizeB at hs
    rw [Bool.and_eq_true, decide_eq_true_eq, decide_eq_true_eq] at hs
    obtain ⟨n, rfl⟩ : ∃ n : Nat, pages = (n : Int) := ⟨pages.toNat, by omega⟩
    have hn1 : 18 ≤ n := by omega
    have hn2 : n ≤ 256 := by omega
    have hf : freeF used n = C := by rw [← HCL.out]; unfold freeL; rw [HQ.out]; rfl
    have hcl := freeF_len used n
    rw [hf] at hcl
    have HC := Lib.hid hf
    clear hs hf HCL
    have hsw1 := HB.out.size
    go_upto_region 4 with (fail)
    refine Agg.wp_at fun w2 hw2 => ?_
    have hb : Below w1.heap.size w1 w2 := by rw [hw2.out]; repeat (first | exact Below.refl _ _ | refine Agg.bel_drew ?_ | refine Agg.bel_alloc ?_ _)
    replace HB := Lib.hid (HB.out.trans (hb.mono HB.out.size))
    replace HV := Lib.hid (HV.out.keep hb)
    clear hb
    have HG : Hid (Blk w2 w1.heap.size 22 [.slice none 0 0]) := by show Blk _ _ _ _; rw [hw2.out]; exact Blk.new w1 22 #[.slice none 0 0]
    clear hw2
    have hgl := HG.out.lt
    obtain ⟨g, hgn⟩ : ∃ z, w1.heap.size = z := ⟨_, rfl⟩
    have hwg : w.heap.size ≤ g := by rw [← hgn]; exact hsw1
    rw [hgn] at HG hgl ⊢
    clear hgn
    go_wp2_with fail
    refine (free_any used _ n w2 HV.out).mono ?_
    rintro e wB ⟨kp, km, rfl, ⟨hk1, hk2⟩, hp, hm, hbB⟩
    have HGB := Lib.hid (HG.out.keep hbB)
    have HBB := Lib.hid (HB.out.trans (hbB.mono HB.out.size))
    have HPB := Lib.hid hp
    have HMB := Lib.hid hm
    have hkl := hm.lt
    clear hp hm hbB HG HB HV
    have hIT := free1_iter used n kp km hn1 hn2
    rw [HC.out] at hIT
    have HIT := Lib.hid hIT
    clear hIT
    go_wp2_with fail
    have hszW := HBB.out.size
    refine Agg.range_iter rfl (Agg.enters Try.func65 (by kernel_rfl) rfl) HIT.out (fun W h => ⟨HPB.out.keep h, HMB.out.keep h⟩)
      (fun A B h => ⟨none, ⟨h.os, h.tape, h.output, h.size, fun k hk _ => h.block k hk⟩, fun r e => by cases e⟩) (fun A B C h1 h2 => h1.trans h2) (fun A B h => ?_) (fun x => rfl)
      (fun k W => ∃ u, Blk W g 22 [u] ∧ W.ownsRow wB.heap.size 3 1 u k (nI (C.take k)) ∧ Below w.heap.size w W ∧ wB.heap.size ≤ W.heap.size) (fun _ _ _ => False)
      (fun k A B h hT => ?_) (fun _ _ _ _ h _ => h) (fun k A B h hab => ?_) (fun _ _ _ _ h _ => h) (fun W h => ?_) ?_ ?_ (fun _ _ _ _ _ _ h => h.elim)
    · obtain ⟨l', o, o', rfl, hl, ho, hc⟩ := h
      exact ⟨by rw [World.putObj_size]; exact Nat.le_refl _, World.putObj_heap_other (by omega), World.putObj_heap_other (by omega)⟩
    · obtain ⟨u, h1, h2, h3, h4⟩ := h
      have h6 := hT.below h3 hszW
      obtain ⟨l', o, o', rfl, hl, ho, hc⟩ := hT
      have hT : Turn wB.heap.size A (A.putObj l' o') := ⟨l', o, o', rfl, hl, ho, hc⟩
      exact ⟨u, hT.blk h1, hT.own h2, h6, by rw [World.putObj_size]; exact h4⟩
    · obtain ⟨u, h1, h2, h3, h4⟩ := h
      exact ⟨u, h1.keep hab, own_keep h2 hab, h3.trans (hab.mono h3.size), Nat.le_trans h4 hab.size⟩
    · exact ⟨_, HGB.out.keep h, World.ownsRow_nil _ _ _ _, HBB.out.trans (h.mono hszW), h.size⟩
    · rintro lr k hk W hszk ⟨u, h1, h2, h3, h4⟩
      obtain ⟨ux, uc, rfl, _, _⟩ := (ownSl h2).shape
      refine Agg.region_in Agg.false_no rfl ?_
      simp only [List.zip_toArray, List.zip_cons_cons, List.zip_nil_left, List.zip_nil_right, List.foldl_toArray, List.foldl_cons, List.foldl_nil, List.setIfInBounds_toArray, List.set_cons_succ, List.set_cons_zero]
      go_wp2_with fail
      refine ⟨KeepsFrom.refl _ _, ⟨Nat.le_refl _, rfl, rfl⟩, fun W2 hT => ?_⟩
      have HNC := Lib.hid (nI_snoc hk)
      obtain ⟨pn, hpe⟩ : ∃ z, C[k] = z := ⟨_, rfl⟩
      rw [hpe] at HNC ⊢
      have H1 := Lib.hid (hT.blk h1)
      have HD := Lib.hid (hT.own h2)
      have HBX := Lib.hid (hT.below h3 hszW)
      have hsW : W2.heap.size = W.heap.size := by obtain ⟨l, o, o', rfl, _⟩ := hT; exact World.putObj_size
      have HS2 : Hid (wB.heap.size ≤ W2.heap.size) := Lib.hid (by omega)
      clear h1 h2 h3 h4 hT hsW hszk HIT HBB HGB HPB HMB hpe
      refine wpIn_block ?_
      refine Agg.region_in (Agg.block_no Agg.roundEnd_no) rfl ?_
      have c0 := H1.out.cell 0
      simp only [List.getElem?_cons_zero] at c0
      have hbA : Below W2.heap.size W2 (W2.alloc (.cells #[.int .i64 (pn : Int)] 3)) := (Below.refl _ _).alloc (Nat.le_refl _) _
      have hC3 := own_keep HD.out hbA
      have hsl : SlR (W2.alloc (.cells #[.int .i64 (pn : Int)] 3)) (.slice (some ⟨W2.heap.size, 0, none⟩) 1 1) 1 1 [.int .i64 (pn : Int)] := NewSl.sl (b0 := 0) (e := 3) ⟨_, rfl, Nat.zero_le _, Blk.new W2 3 #[.int .i64 (pn : Int)]⟩ rfl (by unfold maxLen; decide)
      have hlw : wB.heap.size ≤ (W2.alloc (.cells #[.int .i64 (pn : Int)] 3)).heap.size := Nat.le_trans HS2.out hbA.size
      have hmx : k + 1 ≤ maxLen := by unfold maxLen; omega
      have hby : (k + 1) * 8 ≤ 140737488355328 := by omega
      have hone : ∀ u ∈ [Value.int .i64 (pn : Int)], u.oneCell' = true := by simp [Value.oneCell']
      have hT3 := H1.out.keep hbA
      have hne := own_apart hC3 hT3 (by decide)
      go_wp2_with (first
        | (refine Agg.append2 tiInt (.tmp 14) (.tmp 16) rfl rfl wB.heap.size (v := .slice ux k uc) rfl hC3 rfl hsl hone hmx hby hlw (fun v2 w4 hC4 hg4 hwh => ?_); obtain ⟨v2x, v2c, rfl, _, _⟩ := (ownSl hC4).shape; simp only [Act.put, List.setIfInBounds_toArray, List.set_cons_succ, List.set_cons_zero])
        | (refine Agg.gStoreCell 0 (.slice v2x (k + 1 : Nat) v2c) (blk_row hT3 hg4 hne) rfl rfl rfl rfl rfl (by kernel_rfl) rfl (by simp) rfl (fun w13 hb13 hg13 => ?_)))
      simp only [spliced, List.take_zero, List.drop_succ_cons, List.nil_append, List.drop_nil, List.append_nil, List.length_cons, List.length_nil] at hb13
      have hT4 := blk_row hT3 hg4 hne
      have hC13 := hC4.kept hg13 (own_apart hC4 hT4 (by decide))
      have hB4 := (HBX.out.trans (hbA.mono HBX.out.size)).trans (grown_below hg4 (Nat.le_trans hszW hlw) (fun j hj => Nat.le_trans hszW (own_block hC3 j hj)))
      have hB13 := hB4.trans (grown_below hg13 (Nat.le_trans (Nat.le_trans hszW hlw) hg4.size) (fun j hj => by cases hj; exact hwg))
      have hs13 : W2.heap.size ≤ w13.heap.size := Nat.le_trans hbA.size (Nat.le_trans hg4.size hg13.size)
      have hgb := grown_below hg4 hlw (own_block hC3)
      have hkk : ∀ c, c < wB.heap.size → c ≠ g → w13.heap[c]? = W2.heap[c]? := fun c hc hcg => by
        have e3 := hg13.block c (Nat.lt_of_lt_of_le hc (Nat.le_trans hlw hg4.size)) (fun e => hcg (by injection e))
        exact e3.trans ((hgb.block c hc).trans (hbA.block c (Nat.lt_of_lt_of_le hc HS2.out)))
      refine ⟨((Agg.keeps_below hbA).trans (Agg.keeps_own hC3 hg4)).trans (Agg.keeps_blk hT4 hg13), ⟨hs13, hkk kp (by omega) (by omega), hkk km (by omega) (by omega)⟩, ⟨_, hb13, ?_, hB13, Nat.le_trans HS2.out hs13⟩⟩
      rw [HNC.out]; exact hC13
    · rintro D W hD ⟨u, h1, h2, h3, h4⟩ hDl
      rw [List.take_length] at h2
      obtain ⟨ux, uc, rfl, _, _⟩ := (ownSl h2).shape
      have c0 := h1.cell 0
      simp only [List.getElem?_cons_zero] at c0
      have hT := Agg.shut_turn hDl hD
      have HA := Lib.hid (hT.own h2)
      have HCB := Lib.hid (hT.below h3 hszW)
      have HDl := Lib.hid hDl
      clear h1 h2 h3 h4 hT hDl
      go_wp2_with fail
      refine Agg.marks_ret1 (v := .slice ux C.length uc) HDl.out ?_ ⟨_, rfl, own_weak HA.out hszW, HCB.out⟩
      simp [results, Try.results11, go_sem]
end Go.Proofs.Ytgfmpkcgkjpgnaa
end
section
/-
  FILES: what is taken; the document's row of what is free.
-/
namespace Go.Proofs.Ytgfmpkcgkjpgnaa
open Go.ChangeShapes Go.WideShapes Go.ChangeAt Go.RowKit Agg Pg Dv Fi
attribute [local go_sem] Oper.semAt_some

theorem ints_take {w : World} {x : Option Addr} {cap : Nat} {l : List Nat} (h : Ints w (.slice x l.length cap) (toI l)) (k c : Nat) (hk : k ≤ l.length) (hc : k ≤ c) (hc2 : c ≤ cap) : Ints w (.slice x k c) (toI (l.take k)) := by
  obtain ⟨hl, h2⟩ := h
  have hlen : (toI (l.take k)).length = k := by rw [toI_length, List.length_take]; omega
  have hcl : (iC (toI (l.take k))).length = k := by simp [iC, hlen]
  refine ⟨by rw [hcl, hlen]; omega, ?_⟩
  rw [hlen]
  rcases h2 with ⟨h3, h4⟩ | ⟨p, cap', hv, h3, h4, h5⟩
  · rw [toI_length] at h4
    obtain rfl : k = 0 := by omega
    simp only [Value.slice.injEq] at h3
    obtain ⟨rfl, _, rfl⟩ := h3
    obtain rfl : c = 0 := by omega
    exact .inl ⟨rfl, rfl⟩
  · simp only [Value.slice.injEq] at hv
    obtain ⟨rfl, _, rfl⟩ := hv
    refine .inr ⟨p, c, rfl, hc, by omega, fun j u hj => h5 j u ?_⟩
    have hj2 := (List.getElem?_eq_some_iff.1 hj).1
    rw [hcl] at hj2
    unfold iC toI at hj ⊢
    rw [List.getElem?_map, List.getElem?_map, List.getElem?_take, if_pos hj2] at hj
    rw [List.getElem?_map, List.getElem?_map]; exact hj
set_option maxHeartbeats 4000000 in
set_option maxRecDepth 100000 in
theorem Take_any (used : List Int) (v : Value) (pages n : Int) (w : World) (hv : Ints w v used) (T : List Nat) (er : Int) (hT : takeL used pages n = (T, er)) :
    Calls Try.prog 12 #[v, .int .i64 pages, .int .i64 n] w fun e w' => ∃ u, e = .returned (.tuple #[u, .int .i64 er]) ∧ Ints w' u (toI T) ∧ Below w.heap.size w w' := by
  obtain ⟨x, cap, rfl, _⟩ := SlR.shape hv
  have HV := Lib.hid hv
  obtain ⟨q, hq⟩ : ∃ q, sizeB pages = q := ⟨_, rfl⟩
  have HQ := Lib.hid hq
  unfold takeL at hT
  rw [hq] at hT
  have hnil : ∀ w : World, Ints w (.slice none 0 0) (toI []) := fun w => ⟨rfl, .inl ⟨rfl, rfl⟩⟩
  clear hv hq
  have HT := Lib.hid hT
  clear hT
  have HB := Lib.hid (Below.refl w.heap.size w)
  go_enter Try.func12, Try.ntmps12
  go_wp2_with fail
  refine (size_any pages w q HQ.out).mono ?_
  rintro e w1 ⟨rfl, hb⟩
  replace HB := Lib.hid (HB.out.trans (hb.mono HB.out.size))
  replace HV := Lib.hid (HV.out.keep hb)
  clear hb
  cases q
  · have h1 := HT.out
    rw [if_pos (.inl rfl)] at h1
    simp only [Prod.mk.injEq] at h1
    obtain ⟨rfl, rfl⟩ := h1
    go_wp2_with fail
    go_ret2
    exact ⟨_, rfl, hnil _, HB.out⟩
  · have hu := HQ.out
    clear hu
    by_cases hn : n < 0
    · have h1 := HT.out
      rw [if_pos (.inr hn)] at h1
      simp only [Prod.mk.injEq] at h1
      obtain ⟨rfl, rfl⟩ := h1
      go_wp2_with fail
      go_ret2
      exact ⟨_, rfl, hnil _, HB.out⟩
    · have h1 := HT.out
      rw [if_neg (by simp; omega)] at h1
      clear HT
      obtain ⟨C, hC⟩ : ∃ C, freeL used pages = C := ⟨_, rfl⟩
      have HF := Lib.hid (fun W hW => Free_any used (.slice x used.length cap) pages W hW)
      rw [hC] at h1 HF
      clear hC
      have HT := Lib.hid h1
      clear h1
      go_wp2_with fail
      refine (HF.out w1 HV.out).mono ?_
      rintro e w9 ⟨u, rfl, ho, hb⟩
      have HB9 := Lib.hid (HB.out.trans (hb.mono HB.out.size))
      obtain ⟨ux, uc, rfl, huc, hucm⟩ := (ownSl ho).shape
      have HO := Lib.hid (ints_of (ownSl ho))
      clear ho hb HF
      by_cases hl : (C.length : Int) < n
      · have h1 := HT.out
        rw [if_pos hl] at h1
        simp only [Prod.mk.injEq] at h1
        obtain ⟨rfl, rfl⟩ := h1
        go_wp2_with fail
        go_ret2
        exact ⟨_, rfl, hnil _, HB9.out⟩
      · have h1 := HT.out
        rw [if_neg hl] at h1
        simp only [Prod.mk.injEq] at h1
        obtain ⟨rfl, rfl⟩ := h1
        obtain ⟨k, rfl⟩ : ∃ k : Nat, n = (k : Int) := ⟨n.toNat, by omega⟩
        have HK := Lib.hid (ints_take HO.out k k (by omega) (Nat.le_refl _) (by omega))
        have hku : (k : Int) ≤ uc := by omega
        clear HO HT
        go_wp2_with fail
        go_ret2
        exact ⟨_, rfl, HK.out, HB9.out⟩
set_option maxHeartbeats 4000000 in
set_option maxRecDepth 100000 in
theorem rFree_any (used : List Int) (v : Value) (pages : Int) (w : World) (hp1 : -9223372036854775808 ≤ pages) (hp2 : pages ≤ 9223372036854775807) (hv : Ints w v used) :
    Calls Try.prog 18 #[v, .int .i64 pages] w fun e w' => ∃ u, e = .returned u ∧ w'.ownsRow w.heap.size 3 1 u (freeL used pages).length (nI (freeL used pages)) ∧ Below w.heap.size w w' := by
  obtain ⟨x, cap, rfl, _⟩ := SlR.shape hv
  have HV := Lib.hid hv
  clear hv
  obtain ⟨q, hq⟩ : ∃ q, sizeB pages = q := ⟨_, rfl⟩
  have HQ := Lib.hid hq
  obtain ⟨C, hC⟩ : ∃ C, freeL used pages = C := ⟨_, rfl⟩
  have HCL := Lib.hid hC
  rw [hC]
  clear hC hq
  have HB := Lib.hid (Below.refl w.heap.size w)
  go_enter Try.func18, Try.ntmps18
  go_wp2_with fail
  have HV0 := HV
  go_loopw [5, 6] (fun s5 s6 wr => ∃ (p : Nat), 18 ≤ p ∧ p ≤ 300 ∧ (18 < p → sizeB pages = true ∧ (p : Int) ≤ pages) ∧ s6 = .int .i64 p ∧ wr.ownsRow w.heap.size 3 1 s5 (freeF used p).length (nI (freeF used p)) ∧ Below w.heap.size w wr) (fun _ s6 _ => 400 - (intOf s6).toNat)
  case atStart => exact ⟨18, by omega, by omega, fun h => absurd h (by omega), rfl, World.ownsRow_nil _ _ _ _, HB.out⟩
  case round =>
    obtain ⟨p, hp3, hp4, hp5, rfl, ho, hb⟩ := hrel
    have HO := Lib.hid ho
    replace HB := Lib.hid hb
    replace HV := Lib.hid (SlR.keep HV0.out hb)
    have HP5 := Lib.hid hp5
    obtain ⟨ux, uc, rfl, _, _⟩ := (ownSl ho).shape
    clear ho hb hp5
    obtain ⟨wA, hwA⟩ : ∃ x, x = wr := ⟨_, rfl⟩
    subst hwA
    by_cases hlt : (p : Int) < pages
    · go_wp2_with fail
      refine (rpages_any pages wA q HQ.out).mono ?_
      rintro e w21 ⟨rfl, hb⟩
      replace HB := Lib.hid (HB.out.trans (hb.mono HB.out.size))
      replace HV := Lib.hid (HV.out.keep hb)
      replace HO := Lib.hid (HO.out.keep hb)
      clear hb
      cases q
      · obtain rfl : p = 18 := by
          by_cases h : 18 < p
          · have := (HP5.out h).1; rw [HQ.out] at this; cases this
          · omega
        obtain rfl : C = [] := by rw [← HCL.out]; unfold freeL; rw [HQ.out]; rfl
        go_wp2_with fail
        go_ret
        exact ⟨_, rfl, HO.out, HB.out⟩
      · have hs := HQ.out
        have h256 : pages ≤ 256 := by unfold sizeB at hs; rw [Bool.and_eq_true, decide_eq_true_eq, decide_eq_true_eq] at hs; omega
        clear hs
        obtain ⟨i, hi⟩ : ∃ q, inB used p = q := ⟨_, rfl⟩
        have HI := Lib.hid hi
        have hlen := freeF_len used p
        clear hi
        go_wp2_with fail
        refine (rhas_any used _ (p : Int) w21 HV.out i HI.out).mono ?_
        rintro e w22 ⟨rfl, hb⟩
        replace HB := Lib.hid (HB.out.trans (hb.mono HB.out.size))
        replace HV := Lib.hid (HV.out.keep hb)
        replace HO := Lib.hid (HO.out.keep hb)
        clear hb
        cases i
        · have hsp := freeF_step used p hp3
          rw [HI.out] at hsp
          simp only [Bool.false_eq_true, if_false] at hsp
          have HSP := Lib.hid hsp
          clear hsp
          have hbA : Below w22.heap.size w22 (w22.alloc (.cells #[.int .i64 (p : Int)] 3)) := (Below.refl _ _).alloc (Nat.le_refl _) _
          have hC3 := own_keep HO.out hbA
          have hsl : SlR (w22.alloc (.cells #[.int .i64 (p : Int)] 3)) (.slice (some ⟨w22.heap.size, 0, none⟩) 1 1) 1 1 [.int .i64 (p : Int)] := NewSl.sl (b0 := 0) (e := 3) ⟨_, rfl, Nat.zero_le _, Blk.new w22 3 #[.int .i64 (p : Int)]⟩ rfl (by unfold maxLen; decide)
          have hlw : w.heap.size ≤ (w22.alloc (.cells #[.int .i64 (p : Int)] 3)).heap.size := Nat.le_trans HB.out.size hbA.size
          have hmx : (freeF used p).length + 1 ≤ maxLen := by unfold maxLen; omega
          have hby : ((freeF used p).length + 1) * 8 ≤ 140737488355328 := by omega
          have hone : ∀ u ∈ [Value.int .i64 (p : Int)], u.oneCell' = true := by simp [Value.oneCell']
          go_wp2_with (refine Agg.append2 tiInt (.tmp 20) (.tmp 22) rfl rfl w.heap.size (v := .slice ux (freeF used p).length uc) rfl hC3 rfl hsl hone hmx hby hlw (fun v2 w4 hC4 hg4 hwh => ?_); simp only [Act.put, List.setIfInBounds_toArray, List.set_cons_succ, List.set_cons_zero])
          have hB4 := (HB.out.trans (hbA.mono HB.out.size)).trans (grown_below hg4 hlw (own_block hC3))
          have he : nI (freeF used (p + 1)) = nI (freeF used p) ++ [.int .i64 (p : Int)] := by rw [HSP.out]; unfold nI iC toI; rw [List.map_append, List.map_append]; rfl
          have hl2 : (freeF used (p + 1)).length = (freeF used p).length + 1 := by rw [HSP.out, List.length_append]; rfl
          exact ⟨⟨p + 1, by omega, by omega, fun _ => ⟨HQ.out, by omega⟩, by go_num, by rw [he, hl2]; exact hC4, hB4⟩, by simp [intOf]; omega⟩
        · have hsp := freeF_step used p hp3
          rw [HI.out] at hsp
          simp only [if_true, List.append_nil] at hsp
          have HSP := Lib.hid hsp
          clear hsp
          go_wp2_with fail
          exact ⟨⟨p + 1, by omega, by omega, fun _ => ⟨HQ.out, by omega⟩, by go_num, by rw [HSP.out]; exact HO.out, HB.out⟩, by simp [intOf]; omega⟩
    · have hend : C = freeF used p := by
        rw [← HCL.out]
        unfold freeL
        by_cases h : 18 < p
        · obtain ⟨h1, h2⟩ := HP5.out h
          rw [h1, if_pos rfl, show pages.toNat = p by omega]
        · have : sizeB pages = false := by unfold sizeB; rw [decide_eq_false (by omega)]; rfl
          rw [this, show p = 18 by omega]; rfl
      subst hend
      go_wp2_with fail
      go_ret
      exact ⟨_, rfl, HO.out, HB.out⟩
end Go.Proofs.Ytgfmpkcgkjpgnaa
end
