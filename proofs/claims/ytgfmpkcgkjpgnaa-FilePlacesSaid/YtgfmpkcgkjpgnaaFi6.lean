/-
  FILES: what is taken; the document's row of what is free.
-/
import Derived.Test.YtgfmpkcgkjpgnaaFi5
namespace Go.Proofs.Ytgfmpkcgkjpgnaa
open Go.ChangeShapes Go.WideShapes Go.ChangeAt Go.RowKit Agg Pg Dv Fi
attribute [local go_sem] Oper.semAt_some

theorem ints_take {w : World} {x : Option Addr} {cap : Nat} {l : List Nat} (h : Ints w (.slice x l.length cap) (toI l)) (k c : Nat) (hk : k ≤ l.length) (hc : k ≤ c) (hc2 : c ≤ cap) : Ints w (.slice x k c) (toI (l.take k)) := by
  obtain ⟨hl, h2⟩ := h
  have hlen : (toI (l.take k)).length = k := by rw [toI_length, List.length_take]; omega
  have hcl : (iC (toI (l.take k))).length = k := by simp [iC, hlen]
  refine ⟨by rw [hcl, hlen]; omega, ?_⟩
  rw [hlen]
  rcases h2 with ⟨h3, h4⟩ | ⟨p, cap', hv, h3, h4, h5⟩
  · rw [toI_length] at h4
    obtain rfl : k = 0 := by omega
    simp only [Value.slice.injEq] at h3
    obtain ⟨rfl, _, rfl⟩ := h3
    obtain rfl : c = 0 := by omega
    exact .inl ⟨rfl, rfl⟩
  · simp only [Value.slice.injEq] at hv
    obtain ⟨rfl, _, rfl⟩ := hv
    refine .inr ⟨p, c, rfl, hc, by omega, fun j u hj => h5 j u ?_⟩
    have hj2 := (List.getElem?_eq_some_iff.1 hj).1
    rw [hcl] at hj2
    unfold iC toI at hj ⊢
    rw [List.getElem?_map, List.getElem?_map, List.getElem?_take, if_pos hj2] at hj
    rw [List.getElem?_map, List.getElem?_map]; exact hj
set_option maxHeartbeats 4000000 in
set_option maxRecDepth 100000 in
theorem Take_any (used : List Int) (v : Value) (pages n : Int) (w : World) (hv : Ints w v used) (T : List Nat) (er : Int) (hT : takeL used pages n = (T, er)) :
    Calls Try.prog 12 #[v, .int .i64 pages, .int .i64 n] w fun e w' => ∃ u, e = .returned (.tuple #[u, .int .i64 er]) ∧ Ints w' u (toI T) ∧ Below w.heap.size w w' := by
  obtain ⟨x, cap, rfl, _⟩ := SlR.shape hv
  have HV := Lib.hid hv
  obtain ⟨q, hq⟩ : ∃ q, sizeB pages = q := ⟨_, rfl⟩
  have HQ := Lib.hid hq
  unfold takeL at hT
  rw [hq] at hT
  have hnil : ∀ w : World, Ints w (.slice none 0 0) (toI []) := fun w => ⟨rfl, .inl ⟨rfl, rfl⟩⟩
  clear hv hq
  have HT := Lib.hid hT
  clear hT
  have HB := Lib.hid (Below.refl w.heap.size w)
  go_enter Try.func12, Try.ntmps12
  go_wp2_with fail
  refine (size_any pages w q HQ.out).mono ?_
  rintro e w1 ⟨rfl, hb⟩
  replace HB := Lib.hid (HB.out.trans (hb.mono HB.out.size))
  replace HV := Lib.hid (HV.out.keep hb)
  clear hb
  cases q
  · have h1 := HT.out
    rw [if_pos (.inl rfl)] at h1
    simp only [Prod.mk.injEq] at h1
    obtain ⟨rfl, rfl⟩ := h1
    go_wp2_with fail
    go_ret2
    exact ⟨_, rfl, hnil _, HB.out⟩
  · have hu := HQ.out
    clear hu
    by_cases hn : n < 0
    · have h1 := HT.out
      rw [if_pos (.inr hn)] at h1
      simp only [Prod.mk.injEq] at h1
      obtain ⟨rfl, rfl⟩ := h1
      go_wp2_with fail
      go_ret2
      exact ⟨_, rfl, hnil _, HB.out⟩
    · have h1 := HT.out
      rw [if_neg (by simp; omega)] at h1
      clear HT
      obtain ⟨C, hC⟩ : ∃ C, freeL used pages = C := ⟨_, rfl⟩
      have HF := Lib.hid (fun W hW => Free_any used (.slice x used.length cap) pages W hW)
      rw [hC] at h1 HF
      clear hC
      have HT := Lib.hid h1
      clear h1
      go_wp2_with fail
      refine (HF.out w1 HV.out).mono ?_
      rintro e w9 ⟨u, rfl, ho, hb⟩
      have HB9 := Lib.hid (HB.out.trans (hb.mono HB.out.size))
      obtain ⟨ux, uc, rfl, huc, hucm⟩ := (ownSl ho).shape
      have HO := Lib.hid (ints_of (ownSl ho))
      clear ho hb HF
      by_cases hl : (C.length : Int) < n
      · have h1 := HT.out
        rw [if_pos hl] at h1
        simp only [Prod.mk.injEq] at h1
        obtain ⟨rfl, rfl⟩ := h1
        go_wp2_with fail
        go_ret2
        exact ⟨_, rfl, hnil _, HB9.out⟩
      · have h1 := HT.out
        rw [if_neg hl] at h1
        simp only [Prod.mk.injEq] at h1
        obtain ⟨rfl, rfl⟩ := h1
        obtain ⟨k, rfl⟩ : ∃ k : Nat, n = (k : Int) := ⟨n.toNat, by omega⟩
        have HK := Lib.hid (ints_take HO.out k k (by omega) (Nat.le_refl _) (by omega))
        have hku : (k : Int) ≤ uc := by omega
        clear HO HT
        go_wp2_with fail
        go_ret2
        exact ⟨_, rfl, HK.out, HB9.out⟩
set_option maxHeartbeats 4000000 in
set_option maxRecDepth 100000 in
theorem rFree_any (used : List Int) (v : Value) (pages : Int) (w : World) (hp1 : -9223372036854775808 ≤ pages) (hp2 : pages ≤ 9223372036854775807) (hv : Ints w v used) :
    Calls Try.prog 18 #[v, .int .i64 pages] w fun e w' => ∃ u, e = .returned u ∧ w'.ownsRow w.heap.size 3 1 u (freeL used pages).length (nI (freeL used pages)) ∧ Below w.heap.size w w' := by
  obtain ⟨x, cap, rfl, _⟩ := SlR.shape hv
  have HV := Lib.hid hv
  clear hv
  obtain ⟨q, hq⟩ : ∃ q, sizeB pages = q := ⟨_, rfl⟩
  have HQ := Lib.hid hq
  obtain ⟨C, hC⟩ : ∃ C, freeL used pages = C := ⟨_, rfl⟩
  have HCL := Lib.hid hC
  rw [hC]
  clear hC hq
  have HB := Lib.hid (Below.refl w.heap.size w)
  go_enter Try.func18, Try.ntmps18
  go_wp2_with fail
  have HV0 := HV
  go_loopw [5, 6] (fun s5 s6 wr => ∃ (p : Nat), 18 ≤ p ∧ p ≤ 300 ∧ (18 < p → sizeB pages = true ∧ (p : Int) ≤ pages) ∧ s6 = .int .i64 p ∧ wr.ownsRow w.heap.size 3 1 s5 (freeF used p).length (nI (freeF used p)) ∧ Below w.heap.size w wr) (fun _ s6 _ => 400 - (intOf s6).toNat)
  case atStart => exact ⟨18, by omega, by omega, fun h => absurd h (by omega), rfl, World.ownsRow_nil _ _ _ _, HB.out⟩
  case round =>
    obtain ⟨p, hp3, hp4, hp5, rfl, ho, hb⟩ := hrel
    have HO := Lib.hid ho
    replace HB := Lib.hid hb
    replace HV := Lib.hid (SlR.keep HV0.out hb)
    have HP5 := Lib.hid hp5
    obtain ⟨ux, uc, rfl, _, _⟩ := (ownSl ho).shape
    clear ho hb hp5
    obtain ⟨wA, hwA⟩ : ∃ x, x = wr := ⟨_, rfl⟩
    subst hwA
    by_cases hlt : (p : Int) < pages
    · go_wp2_with fail
      refine (rpages_any pages wA q HQ.out).mono ?_
      rintro e w21 ⟨rfl, hb⟩
      replace HB := Lib.hid (HB.out.trans (hb.mono HB.out.size))
      replace HV := Lib.hid (HV.out.keep hb)
      replace HO := Lib.hid (HO.out.keep hb)
      clear hb
      cases q
      · obtain rfl : p = 18 := by
          by_cases h : 18 < p
          · have := (HP5.out h).1; rw [HQ.out] at this; cases this
          · omega
        obtain rfl : C = [] := by rw [← HCL.out]; unfold freeL; rw [HQ.out]; rfl
        go_wp2_with fail
        go_ret
        exact ⟨_, rfl, HO.out, HB.out⟩
      · have hs := HQ.out
        have h256 : pages ≤ 256 := by unfold sizeB at hs; rw [Bool.and_eq_true, decide_eq_true_eq, decide_eq_true_eq] at hs; omega
        clear hs
        obtain ⟨i, hi⟩ : ∃ q, inB used p = q := ⟨_, rfl⟩
        have HI := Lib.hid hi
        have hlen := freeF_len used p
        clear hi
        go_wp2_with fail
        refine (rhas_any used _ (p : Int) w21 HV.out i HI.out).mono ?_
        rintro e w22 ⟨rfl, hb⟩
        replace HB := Lib.hid (HB.out.trans (hb.mono HB.out.size))
        replace HV := Lib.hid (HV.out.keep hb)
        replace HO := Lib.hid (HO.out.keep hb)
        clear hb
        cases i
        · have hsp := freeF_step used p hp3
          rw [HI.out] at hsp
          simp only [Bool.false_eq_true, if_false] at hsp
          have HSP := Lib.hid hsp
          clear hsp
          have hbA : Below w22.heap.size w22 (w22.alloc (.cells #[.int .i64 (p : Int)] 3)) := (Below.refl _ _).alloc (Nat.le_refl _) _
          have hC3 := own_keep HO.out hbA
          have hsl : SlR (w22.alloc (.cells #[.int .i64 (p : Int)] 3)) (.slice (some ⟨w22.heap.size, 0, none⟩) 1 1) 1 1 [.int .i64 (p : Int)] := NewSl.sl (b0 := 0) (e := 3) ⟨_, rfl, Nat.zero_le _, Blk.new w22 3 #[.int .i64 (p : Int)]⟩ rfl (by unfold maxLen; decide)
          have hlw : w.heap.size ≤ (w22.alloc (.cells #[.int .i64 (p : Int)] 3)).heap.size := Nat.le_trans HB.out.size hbA.size
          have hmx : (freeF used p).length + 1 ≤ maxLen := by unfold maxLen; omega
          have hby : ((freeF used p).length + 1) * 8 ≤ 140737488355328 := by omega
          have hone : ∀ u ∈ [Value.int .i64 (p : Int)], u.oneCell' = true := by simp [Value.oneCell']
          go_wp2_with (refine Agg.append2 tiInt (.tmp 20) (.tmp 22) rfl rfl w.heap.size (v := .slice ux (freeF used p).length uc) rfl hC3 rfl hsl hone hmx hby hlw (fun v2 w4 hC4 hg4 hwh => ?_); simp only [Act.put, List.setIfInBounds_toArray, List.set_cons_succ, List.set_cons_zero])
          have hB4 := (HB.out.trans (hbA.mono HB.out.size)).trans (grown_below hg4 hlw (own_block hC3))
          have he : nI (freeF used (p + 1)) = nI (freeF used p) ++ [.int .i64 (p : Int)] := by rw [HSP.out]; unfold nI iC toI; rw [List.map_append, List.map_append]; rfl
          have hl2 : (freeF used (p + 1)).length = (freeF used p).length + 1 := by rw [HSP.out, List.length_append]; rfl
          exact ⟨⟨p + 1, by omega, by omega, fun _ => ⟨HQ.out, by omega⟩, by go_num, by rw [he, hl2]; exact hC4, hB4⟩, by simp [intOf]; omega⟩
        · have hsp := freeF_step used p hp3
          rw [HI.out] at hsp
          simp only [if_true, List.append_nil] at hsp
          have HSP := Lib.hid hsp
          clear hsp
          go_wp2_with fail
          exact ⟨⟨p + 1, by omega, by omega, fun _ => ⟨HQ.out, by omega⟩, by go_num, by rw [HSP.out]; exact HO.out, HB.out⟩, by simp [intOf]; omega⟩
    · have hend : C = freeF used p := by
        rw [← HCL.out]
        unfold freeL
        by_cases h : 18 < p
        · obtain ⟨h1, h2⟩ := HP5.out h
          rw [h1, if_pos rfl, show pages.toNat = p by omega]
        · have : sizeB pages = false := by unfold sizeB; rw [decide_eq_false (by omega)]; rfl
          rw [this, show p = 18 by omega]; rfl
      subst hend
      go_wp2_with fail
      go_ret
      exact ⟨_, rfl, HO.out, HB.out⟩
end Go.Proofs.Ytgfmpkcgkjpgnaa
