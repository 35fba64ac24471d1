/-
  THE WALKS OF LAYER 7 (runs): a piece's times are handed on.
-/
import Derived.Laws.AppendOwn
import Derived.Test.YtpligbfajnjklaaRuP
import Derived.Test.YtpligbfajnjklaaOwn2
section
namespace Go.Proofs.Ytpligbfajnjklaa
open Go.ChangeShapes Go.WideShapes Go.ChangeAt Go.RowKit Agg Pg Ru
attribute [local go_sem] Oper.semAt_some

theorem cell_at {A B : World} {g : Nat} (h : B.heap[g]? = A.heap[g]?) (i : Nat) : B.cell? ⟨g, i, none⟩ = A.cell? ⟨g, i, none⟩ := by
  unfold World.cell?; simp only [h]
theorem ownR_same {A B : World} {g : Nat} (h : B.heap[g]? = A.heap[g]?) (b : Nat) : OwnR g B b ↔ OwnR g A b := by
  unfold OwnR; rw [cell_at h]
set_option maxHeartbeats 4000000 in
set_option maxRecDepth 100000 in
theorem tell_any (r : Rn) (s : Rn × List Rn) (base g : Nat) (w : World) (hsz : sized r = true) (hti : ∀ t ∈ ts r, 0 ≤ t ∧ t ≤ maxT) (hst : ∀ k, k ≤ (ts r).length → RowI (((ts r).take k).foldl take s)) (hbw : base ≤ w.heap.size) (h : RowO base w g s) :
    Calls Try.prog 47 #[.agg (ruC r).toArray, takeV g] w fun e w' => e = .returned (.tuple #[]) ∧ RowO base w' g ((ts r).foldl take s) ∧ Below base w w' := by
  have HS := Lib.hid hsz
  have HTI := Lib.hid hti
  have HST := Lib.hid hst
  have HBW := Lib.hid hbw
  have HRO := Lib.hid h
  have hgw : g < w.heap.size := by obtain ⟨_, _, h1, _⟩ := h; exact h1.lt
  have hbg : base ≤ g := by obtain ⟨_, h0, _, _⟩ := h; exact h0
  have HGW := Lib.hid (And.intro hgw hbg)
  clear hsz hti hst hbw h hgw hbg
  have HB := Lib.hid (Below.refl w.heap.size w)
  refine Agg.calls_of_marks Try.func47 rfl ?_
  simp only [Try.ntmps47, List.size_toArray, List.length_cons, List.length_nil, Nat.reduceAdd, Nat.reduceSub, Array.replicate_succ, Array.replicate_zero, List.push_toArray, List.append_toArray, List.nil_append, List.cons_append]
  obtain ⟨a, st, c⟩ := r
  obtain ⟨T, hT⟩ : ∃ T, ts (a, st, c) = T := ⟨_, rfl⟩
  have HTS := Lib.hid hT
  rw [hT] at HTI HST ⊢
  clear hT
  go_upto_region 1 with (fail)
  refine Agg.wp_at fun w1 hw1 => ?_
  have hb : Below w.heap.size w w1 := by rw [hw1.out]; repeat (first | exact Below.refl _ _ | refine Agg.bel_drew ?_ | refine Agg.bel_alloc ?_ _)
  replace HB := Lib.hid (HB.out.trans (hb.mono HB.out.size))
  clear hb
  have H1 : Hid (Blk w1 w.heap.size 31 (ruC (a, st, c))) := by show Blk _ _ _ _; rw [hw1.out]; exact (Blk.new w 31 (ruC (a, st, c)).toArray).al _
  have H2 : Hid (Blk w1 (w.heap.size + 1) 60 [takeV g]) := by show Blk _ _ _ _; rw [hw1.out]; exact Blk.newAt (w.alloc _) 60 #[takeV g] _ (by simp)
  have HRW : Hid (RowO base w1 g s) := Lib.hid (HRO.out.keep HB.out)
  clear hw1 HRO
  have hr := H1.out
  have HBL := Lib.hid HB.out.size
  go_wp2_with (first
    | (refine Agg.gLoadB 3 hr rfl rfl rfl rfl (by decide +kernel) ?_; simp only [Act.put, List.setIfInBounds_toArray, List.set_cons_succ, List.set_cons_zero])
    | (refine Agg.gBuildRows ti24 [.tmp 5] [ruC (a, st, c)] rfl 1 rfl rfl rfl (by simp [ruC]) (by decide) (by decide) ?_; simp only [Act.put, List.setIfInBounds_toArray, List.set_cons_succ, List.set_cons_zero]))
  have hbA : Below w1.heap.size w1 (w1.alloc (.cells (ruC (a, st, c)).toArray 31)) := (Below.refl _ _).alloc (Nat.le_refl _) _
  have HBR : Hid (Blk (w1.alloc (.cells (ruC (a, st, c)).toArray 31)) w1.heap.size 31 (ruC (a, st, c))) := Lib.hid (Blk.new w1 31 (ruC (a, st, c)).toArray)
  have HBA := Lib.hid hbA
  clear hbA hr
  refine (all_any _ 1 1 _).mono ?_
  rintro e wB ⟨rfl, hK, hbB⟩
  rw [World.size_alloc] at hK ⊢
  have hszB := hbB.size
  rw [World.size_alloc] at hszB
  have H2B := Lib.hid ((H2.out.keep HBA.out).keep hbB)
  have HRB := Lib.hid ((HRW.out.keep HBA.out).keep hbB)
  have HRUN := Lib.hid (HBR.out.keep hbB)
  have HBB := Lib.hid (HB.out.trans ((HBA.out.trans (by have := hbB; exact this.mono HBA.out.size)).mono HB.out.size))
  have HKB := Lib.hid hK
  have HNO : Hid (¬ OwnR g wB w1.heap.size) := Lib.hid (fun hx => by
    obtain ⟨v, _, h1, h2⟩ := HRW.out
    have hg1 : g < w1.heap.size := h1.lt
    have hsame : wB.heap[g]? = w1.heap[g]? := (hbB.block g (by rw [World.size_alloc]; omega)).trans (HBA.out.block g hg1)
    rcases (ownR_same hsame _).1 hx with e | ⟨u, h3, h4⟩
    · omega
    · rw [h1.cell] at h3
      simp only [List.getElem?_cons_succ, List.getElem?_cons_zero] at h3
      cases h3
      have := (h2.lt _ h4).2
      omega)
  obtain ⟨b1, hb1⟩ : ∃ b, w1.heap.size = b := ⟨_, rfl⟩
  rw [hb1] at HRUN HKB HNO hszB HBL ⊢
  have HSB := Lib.hid hszB
  clear hK hbB hszB HBA HBR H1 H2 HRW HB hb1
  have hgb : g < b1 := by have := HGW.out.1; have := HBL.out; omega
  have HGB := Lib.hid hgb
  clear hgb
  go_wp2_with fail
  have hgB : g < wB.heap.size := by have := HGB.out; have := HSB.out; omega
  have hbB2 : base ≤ wB.heap.size := by have := HGW.out.2; omega
  have HGS := Lib.hid (And.intro hgB hbB2)
  have hIT := all1_iterM [(a, st, c)] (some ⟨b1, 0, none⟩) 1 (b1 + 1) base (g + 1) (OwnR g) (fun W => Blk W b1 31 (ruC (a, st, c)) ∧ g < W.heap.size ∧ ¬ OwnR g W b1)
    (fun r hr => by rw [List.mem_singleton] at hr; subst hr; exact HS.out) (by have h := (sized_iff _).1 HS.out; simp only at h; simp only [many, List.map_cons, List.map_nil, List.sum_cons, List.sum_nil]; omega) (by simp)
    (fun W h => by
      have h2 : SlR W (.slice (some ⟨b1, 0, none⟩) 1 1) 3 1 (ruC (a, st, c)) := NewSl.sl (b0 := 0) (e := 31) ⟨_, rfl, Nat.zero_le _, h.1⟩ rfl (by unfold maxLen; decide)
      show SlR _ _ _ _ _
      simpa using h2)
    (fun A B h hb => ⟨h.1.keep hb, Nat.lt_of_lt_of_le h.2.1 hb.size, fun hx => h.2.2 ((ownR_same (hb.block g h.2.1) _).1 hx)⟩)
    (fun A B h hk => ⟨(hk.2.2.2 _ _ h.1 h.2.2).1, Nat.lt_of_lt_of_le h.2.1 hk.2.1, (hk.2.2.2 _ _ h.1 h.2.2).2⟩)
    (fun A B b h hb => ownR_same (hb.block g (by omega)) b)
  rw [show times [(a, st, c)] = T by rw [← HTS.out]; simp [times]] at hIT
  have HIT := Lib.hid hIT
  clear hIT
  refine Agg.range_iter rfl (Agg.enters Try.func54 (by kernel_rfl) rfl) HIT.out (fun W h => ?_)
    (fun A B h => ⟨none, ⟨h.os, h.tape, h.output, h.size, fun k hk _ => h.block k hk⟩, fun r e => by cases e⟩) (fun A B C h1 h2 => h1.trans h2) (fun A B h => ?_) (fun x => rfl)
    (fun k W => RowO base W g ((T.take k).foldl take s) ∧ Below base w W ∧ Blk W (w.heap.size + 1) 60 [takeV g]) (fun _ _ _ => False)
    (fun k A B h hT => ?_) (fun _ _ _ _ h _ => h) (fun k A B h hab => ?_) (fun _ _ _ _ h _ => h) (fun W h => ?_) ?_ ?_ (fun _ _ _ _ _ _ h => h.elim)
  · have hw : Wd (OwnR g) wB := fun b hb => by
      obtain ⟨v, _, h1, h2⟩ := HRB.out
      rcases hb with e | ⟨u, h3, h4⟩
      · rw [e]; exact hgB
      · rw [h1.cell] at h3
        simp only [List.getElem?_cons_succ, List.getElem?_cons_zero] at h3
        cases h3
        exact (h2.lt b h4).2
    have hsame := h.block g hgB
    exact ⟨⟨⟨HRUN.out.keep h, Nat.lt_of_lt_of_le hgB h.size, fun hx => HNO.out ((ownR_same hsame _).1 hx)⟩, Nat.le_trans hgB h.size, fun b hb => Nat.lt_of_lt_of_le (hw b ((ownR_same hsame _).1 hb)) h.size⟩, HKB.out.keep h⟩
  · obtain ⟨l, o, o', rfl, hl, ho, hc⟩ := h
    have hT : Turn wB.heap.size A (A.putObj l o') := ⟨l, o, o', rfl, hl, ho, hc⟩
    have hsame : (A.putObj l o').heap[g]? = A.heap[g]? := World.putObj_heap_other (by omega)
    exact ⟨hT.below (Below.refl _ _) hbB2, by rw [World.putObj_size]; exact Nat.le_refl _, fun hw b hb => by rw [World.putObj_size]; exact hw b ((ownR_same hsame _).1 hb), fun _ b hb hx => ⟨hT.blk hb, fun h => hx ((ownR_same hsame _).1 h)⟩⟩
  · obtain ⟨⟨v, h0, h1, h2⟩, h3, h4⟩ := h
    exact ⟨⟨v, h0, hT.blk h1, hT.own h2⟩, hT.below h3 hbB2, hT.blk h4⟩
  · obtain ⟨h1, h2, h3⟩ := h
    exact ⟨h1.keep hab, h2.trans (hab.mono (by have := h1; obtain ⟨_, q1, q2, _⟩ := h1; have := q2.lt; omega)), h3.keep hab⟩
  · exact ⟨HRB.out.keep h, (HBB.out.mono HBW.out).trans (h.mono hbB2), H2B.out.keep h⟩
  · rintro lr k hk W hszk ⟨hR, hB, h2⟩
    refine Agg.region_in Agg.false_no rfl ?_
    simp only [List.zip_toArray, List.zip_cons_cons, List.zip_nil_left, List.zip_nil_right, List.foldl_toArray, List.foldl_cons, List.foldl_nil, List.setIfInBounds_toArray, List.set_cons_succ, List.set_cons_zero]
    go_wp2_with fail
    refine ⟨KeepsFrom.refl _ _, ⟨Below.refl _ _, Nat.le_refl _, id, fun _ _ h1 h2 => ⟨h1, h2⟩⟩, fun W2 hT => ?_⟩
    have hR2 : RowO base W2 g ((T.take k).foldl take s) := by obtain ⟨v, q0, q1, q2⟩ := hR; exact ⟨v, q0, hT.blk q1, hT.own q2⟩
    have HR2 := Lib.hid hR2
    have HB2 := Lib.hid (hT.below hB hbB2)
    have HX2 := Lib.hid (hT.blk h2)
    clear hR hB h2 hT hR2 HIT HRUN HRB HKB HBB H2B
    have hst : (T.take (k + 1)).foldl take s = take ((T.take k).foldl take s) T[k] := by rw [List.take_succ_eq_append_getElem hk, List.foldl_append]; rfl
    have HSX := Lib.hid hst
    have HTX := Lib.hid (HTI.out T[k] (List.getElem_mem hk))
    have HSK := Lib.hid (HST.out k (by omega))
    clear hst
    generalize T[k] = t at *
    generalize (T.take k).foldl take s = S at *
    refine wpIn_block ?_
    refine Agg.region_in (Agg.block_no Agg.roundEnd_no) rfl ?_
    have c0 := HX2.out.cell 0
    simp only [List.getElem?_cons_zero] at c0
    unfold takeV at c0 ⊢
    go_wp2_with fail
    clear c0
    have hbW2 : base ≤ W2.heap.size := by obtain ⟨_, q0, q1, _⟩ := HR2.out; have := q1.lt; omega
    refine (takeK_any S t base g W2 HSK.out HTX.out hbW2 HR2.out).mono ?_
    rintro e w3 ⟨rfl, h3, h4, h5⟩
    have H3 := Lib.hid h3
    have H4 := Lib.hid h4
    have H5 := Lib.hid h5
    clear h3 h4 h5
    go_wp2_with fail
    have hno2 : ¬ OwnR g W2 (w.heap.size + 1) := fun hx => by
      obtain ⟨v, _, q1, q2⟩ := HR2.out
      rcases hx with e | ⟨u, q3, q4⟩
      · have := HGW.out.1; omega
      · rw [q1.cell] at q3
        simp only [List.getElem?_cons_succ, List.getElem?_cons_zero] at q3
        cases q3
        rcases own_apart q2 HX2.out (by decide) with e | e
        · rw [e] at q4; cases q4
        · exact e q4
    refine ⟨⟨H5.out.1.size, fun b o _ ho hc => H5.out.1.same b o (Nat.zero_le _) ho hc⟩, ⟨H4.out, H5.out.1.size, fun _ b hb => ?_, fun b cs hb hx => H5.out.2 b _ cs hb hx⟩, ⟨by rw [HSX.out]; exact H3.out, (HB2.out).trans H4.out, (H5.out.2 _ _ _ HX2.out hno2).1⟩⟩
    obtain ⟨v, _, q1, q2⟩ := H3.out
    rcases hb with e | ⟨u, q3, q4⟩
    · rw [e]; exact q1.lt
    · rw [q1.cell] at q3
      simp only [List.getElem?_cons_succ, List.getElem?_cons_zero] at q3
      cases q3
      exact (q2.lt b q4).2
  · rintro D W hD ⟨hR, hB, _⟩ hDl
    rw [List.take_length] at hR
    have hT := Agg.shut_turn hDl hD
    have HR2 : Hid (RowO base (W.putObj D (.deferred none)) g (T.foldl take s)) := Lib.hid (by obtain ⟨v, q0, q1, q2⟩ := hR; exact ⟨v, q0, hT.blk q1, hT.own q2⟩)
    have HB2 := Lib.hid (hT.below hB hbB2)
    have HDl := Lib.hid hDl
    clear hR hB hT hDl
    go_wp2_with fail
    exact Agg.marks_ret1 (fn := Try.f47) (v := .tuple #[]) HDl.out (by simp [results, Try.results47, go_sem]) ⟨rfl, HR2.out, HB2.out⟩
end Go.Proofs.Ytpligbfajnjklaa
end
section
/-
  THE WALKS OF LAYER 7 (runs): the runs of pieces.
-/
namespace Ru
theorem fold_piece (P : List Rn) (k : Nat) (hk : k < P.length) (j : Nat) (hj : j ≤ (ts P[k]).length) : ((ts P[k]).take j).foldl take ((times (P.take k)).foldl take row0) = ((times P).take ((times (P.take k)).length + j)).foldl take row0 := by
  conv => rhs; rw [times_take P k hk]
  rw [List.take_append, List.take_of_length_le (show (times (P.take k)).length ≤ (times (P.take k)).length + j by omega), show (times (P.take k)).length + j - (times (P.take k)).length = j by omega, List.foldl_append, List.take_append_of_le_length hj]
theorem fold_next (P : List Rn) (k : Nat) (hk : k < P.length) : (times (P.take (k + 1))).foldl take row0 = (ts P[k]).foldl take ((times (P.take k)).foldl take row0) := by
  rw [List.take_succ_eq_append_getElem hk]
  unfold times
  rw [List.flatMap_append, List.foldl_append]; simp
theorem piece_mem (P : List Rn) (k : Nat) (hk : k < P.length) : ∀ t ∈ ts P[k], t ∈ times P := fun t ht => by
  rw [times_take P k hk]; simp [ht]
end Ru
namespace Go.Proofs.Ytpligbfajnjklaa
open Go.ChangeShapes Go.WideShapes Go.ChangeAt Go.RowKit Agg Pg Ru

set_option maxHeartbeats 2000000 in
set_option maxRecDepth 100000 in
theorem laidR_any (P : List Rn) (v : Value) (w : World) (hl : Rus w v P) (hsz : ∀ r ∈ P, sized r = true) (hr : risingB (times P) = true) :
    Calls Try.prog 45 #[v, .func (.func 47) #[] #[]] w fun e w' => ∃ u, e = .returned u ∧ w'.ownsRow w.heap.size 31 3 u (ofR (times P)).length ((ofR (times P)).flatMap ruC) ∧ Below w.heap.size w w' := by
  obtain ⟨x, cap, rfl, hc1, hc2⟩ := SlR.shape hl
  have HL := Lib.hid hl
  have HL0 := HL
  have HR := Lib.hid hr
  have HSZ := Lib.hid hsz
  have HRO := Lib.hid (fun k hk => row_ok hr k hk)
  have HUP := Lib.hid ((rising_iff _).1 hr).2.2
  have hlen : (P.length : Int) ≤ 9223372036854775807 := (Rus.len hl).2
  have hne : times P ≠ [] := fun e => by have := ((rising_iff _).1 hr).1; rw [e] at this; simp at this
  have HLO := Lib.hid (laid_of _ hne)
  have HFP := Lib.hid (fun k hk j hj => fold_piece P k hk j hj)
  have HSM := Lib.hid (fun k hk => piece_mem P k hk)
  have HTA := Lib.hid (fun k hk => times_take P k hk)
  have HSN := Lib.hid (fun k hk => fold_next P k hk)
  have hmf : ∀ (fn : Fn) (first cap : Array Value) (w : World), (Instr.makeFunc fn first cap).run Try.prog w = .ok (.func fn first cap) w := fun _ _ _ _ => rfl
  clear hl hr hne hc1 hc2 hsz
  have HB := Lib.hid (Below.refl w.heap.size w)
  go_enter Try.func45, Try.ntmps45
  go_upto_region 2 with (fail)
  refine Agg.wp_at fun w1 hw1 => ?_
  have hb : Below w.heap.size w w1 := by rw [hw1.out]; repeat (first | exact Below.refl _ _ | refine Agg.bel_drew ?_ | refine Agg.bel_alloc ?_ _)
  replace HB := Lib.hid (HB.out.trans (hb.mono HB.out.size))
  replace HL := Lib.hid (HL.out.keep hb)
  clear hb
  have HRW : Hid (RowO w.heap.size w1 w.heap.size row0) := Lib.hid (by rw [hw1.out]; exact rowNew w)
  clear hw1
  go_wp2_with fail
  clear hmf
  go_loopw [12] (fun i wr => ∃ k : Nat, k ≤ P.length ∧ i = .int .i64 k ∧ Below w.heap.size w wr ∧ Rus wr (.slice x P.length cap) P ∧ RowO w.heap.size wr w.heap.size ((times (P.take k)).foldl take row0)) (fun i _ => P.length - (intOf i).toNat)
  case atStart => exact ⟨0, by omega, rfl, HB.out, HL.out, HRW.out⟩
  case round =>
    obtain ⟨k, hk, rfl, hb, h1, h2⟩ := hrel
    replace HB := Lib.hid hb
    replace HL := Lib.hid h1
    replace HRW := Lib.hid h2
    clear hb h1 h2
    obtain ⟨wA, hwA⟩ : ∃ x, x = wr := ⟨_, rfl⟩
    subst hwA
    by_cases hlt : k < P.length
    · obtain ⟨b, o, cap', hve, _, _, _, _⟩ := SlR.pos HL.out (by decide) (by omega)
      simp only [Value.slice.injEq, true_and] at hve
      obtain ⟨rfl, rfl⟩ := hve
      have hrow := flat_at ruC 3 (by decide) HL.out (fun b hb => rfl) hlt
      have hst : (times (P.take (k + 1))).foldl take row0 = (ts P[k]).foldl take ((times (P.take k)).foldl take row0) := HSN.out k hlt
      have HST := Lib.hid hst
      have hro : ∀ j, j ≤ (ts P[k]).length → RowI (((ts P[k]).take j).foldl take ((times (P.take k)).foldl take row0)) := fun j hj => by
        rw [HFP.out k hlt j hj]
        have h := HRO.out ((times (P.take k)).length + j) (by rw [HTA.out k hlt, List.length_append, List.length_append]; omega)
        exact ⟨h.1, Nat.le_trans h.2 (by decide)⟩
      have HI := Lib.hid hro
      have HTB := Lib.hid (fun t ht => HUP.out.1 t (HSM.out k hlt t ht))
      have HSK := Lib.hid (HSZ.out _ (List.getElem_mem hlt))
      clear hst hro
      obtain ⟨r, hr⟩ : ∃ r, P[k]'hlt = r := ⟨_, rfl⟩
      rw [hr] at hrow HST HI HTB HSK
      clear hr
      generalize (times (P.take k)).foldl take row0 = s at *
      obtain ⟨a, st, c⟩ := r
      go_upto_region 6 with (first
        | (refine Agg.gLoad 3 [.int .i64 a, .int .i64 st, .int .i64 c] rfl rfl rfl (by decide +kernel) rfl hrow ?_; simp only [Act.put, List.setIfInBounds_toArray, List.set_cons_succ, List.set_cons_zero])
        | (refine Agg.allocRow 31 #[.int .i64 0, .int .i64 0, .int .i64 0] rfl rfl (by kernel_rfl) ?_; simp only [Act.put, List.setIfInBounds_toArray, List.set_cons_succ, List.set_cons_zero])
        | (refine Agg.gStoreNew 3 [.int .i64 a, .int .i64 st, .int .i64 c] rfl rfl rfl rfl rfl rfl (by decide +kernel) rfl rfl rfl ?_; simp only [Act.put]))
      have hbA : Below wA.heap.size wA (wA.alloc (.cells #[.int .i64 a, .int .i64 st, .int .i64 c] 31)) := (Below.refl _ _).alloc (Nat.le_refl _) _
      have hbx := Blk.new wA 31 #[.int .i64 a, .int .i64 st, .int .i64 c]
      have HRA := Lib.hid (HRW.out.keep hbA)
      have HBA := Lib.hid (HB.out.trans (hbA.mono HB.out.size))
      clear hrow hbA HRW
      go_wp2_with (refine Agg.gLoadB 3 hbx rfl rfl rfl rfl (by decide +kernel) ?_; simp only [Act.put, List.setIfInBounds_toArray, List.set_cons_succ, List.set_cons_zero])
      clear hbx
      refine (tell_any (a, st, c) s w.heap.size w.heap.size _ HSK.out HTB.out HI.out HBA.out.size HRA.out).mono ?_
      rintro e w1 ⟨rfl, h1, h2⟩
      have hb2 := HBA.out.trans h2
      have hl2 : Rus w1 (.slice (some ⟨b, o, none⟩) P.length cap) P := SlR.keep HL0.out hb2
      go_wp2_with fail
      exact ⟨⟨k + 1, by omega, by go_num, hb2, hl2, by rw [HST.out]; exact h1⟩, by simp [intOf]; omega⟩
    · obtain rfl : k = P.length := by omega
      rw [List.take_length] at HRW
      have hlo := HLO.out
      have hdl := (HRO.out (times P).length (Nat.le_refl _)).2
      rw [List.take_length] at hdl
      generalize (times P).foldl take row0 = s at *
      obtain ⟨⟨a, st, c⟩, D⟩ := s
      simp only at hlo hdl
      obtain ⟨v, _, h1, h2⟩ := HRW.out
      obtain ⟨vx, vc, rfl, _, _⟩ := (ownSl h2).shape
      simp only at h1 h2
      have H1 := Lib.hid h1
      have HD := Lib.hid h2
      have h1r : ∀ i v, (ruC (a, st, c))[i]? = some v → wA.cell? ⟨w.heap.size, 0 + 0 + 0 + i, none⟩ = some v := fun i v hv => by
        rw [H1.out.cell]
        simp only [Nat.zero_add]
        match i, hv with
        | 0, hv => exact hv
        | 1, hv => exact hv
        | 2, hv => exact hv
      have H1R := Lib.hid h1r
      have HLO2 := Lib.hid hlo
      clear h1 h2 h1r hlo HRW
      go_upto_region 8 with (fail)
      refine Agg.listR 6 (by kernel_rfl) ?_
      simp only [List.take_succ_cons, List.take_zero, List.drop_succ_cons, List.drop_zero]
      refine Agg.chFA fo_fo_Row_1 rfl rfl rfl rfl ?_
      refine Agg.chLoadB H1.out (by decide +kernel) rfl rfl (by rfl) rfl rfl ?_
      refine Agg.chFA fo_fo_Row_0 rfl rfl rfl rfl ?_
      refine Agg.chFA fo_fo_Open_0 rfl rfl rfl rfl ?_
      refine Agg.chRowAt 3 (ruC (a, st, c)) rfl (by decide +kernel) rfl rfl rfl rfl H1R.out ?_
      refine Agg.chBuildSlice (e := 31) (ruC (a, st, c)).toArray rfl rfl rfl rfl (fun W => lit_run (a, st, c) W) ?_
      refine Agg.chEnd ?_
      intro vs w21 hb hf
      simp only [List.reverse, List.reverseAux, Agg.Facts] at hf
      obtain ⟨⟨g9, hv9, hb9, hk9⟩, _⟩ := hf
      simp only [List.reverse, List.reverseAux, Agg.fill, List.set_cons_succ, List.set_cons_zero, hv9]
      clear hv9
      have hC3 := own_keep HD.out hb
      have hsl : SlR w21 (.slice (some ⟨g9, 0, none⟩) 1 1) 3 1 (ruC (a, st, c)) := NewSl.sl (b0 := wA.heap.size) (e := 31) ⟨g9, rfl, hb9, hk9⟩ rfl (by unfold maxLen; decide)
      have HB3 := Lib.hid (HB.out.trans (hb.mono HB.out.size))
      clear hb9 hk9 hb
      refine Agg.append ti24 (.tmp 22) (.tmp 26) rfl rfl w.heap.size (v := .slice vx D.length vc) rfl hC3 rfl hsl (by simp [ruC, Value.oneCell']) (by unfold maxLen; omega) (by omega) HB3.out.size ?_
      intro v' w4 hC4 hg4 _
      simp only [Act.put, List.setIfInBounds_toArray, List.set_cons_succ, List.set_cons_zero]
      have hB4 := HB3.out.trans (grown_below hg4 HB3.out.size (own_block hC3))
      clear hg4 hC3 hsl
      go_wp2_with fail
      go_ret
      refine ⟨_, rfl, ?_, hB4⟩
      rw [← HLO2.out, List.length_append, List.flatMap_append]
      simpa using hC4
end Go.Proofs.Ytpligbfajnjklaa
end
section
/-
  APPEND OF A ROW THAT IS MADE (append(s, make([]T, n)...)), s nil. Over any program.
-/
namespace Agg
open Go Go.RowKit
theorem run_append_made {P : Program} {t e it : TypeId} {size bytes : Nat} {z : Value} {k : IntKind} (T : TI P t e size bytes z) (hit : P.underlying it = some (.int k)) (ty : TypeId) (w : World) (n : Nat) (h0 : 0 < n) (h63 : n ≤ maxLen) (hb : n * bytes ≤ 140737488355328) (hs0 : 0 < size) :
    ∃ c w', (Builtin.append_ #[t, it] ty #[.slice none 0 0, .int .i64 (n : Int)]).run P w = .ok (.slice (some ⟨w.heap.size, 0, none⟩) n c) w' ∧ w'.ownsRow w.heap.size e size (.slice (some ⟨w.heap.size, 0, none⟩) 0 c) 0 [] ∧ Below w.heap.size w w' ∧ n ≤ c := by
  obtain ⟨i, hi, hz, hs, hbt⟩ := T.info
  have hn : n ≠ 0 := by omega
  have h63n : (n : Int) ≤ 9223372036854775807 := by unfold maxLen at h63; omega
  have h63' : ¬ (9223372036854775807 < (n : Int)) := by omega
  have hw : IntKind.i64.wrap (n : Int) = n := by simp [IntKind.wrap, IntKind.bits, IntKind.signed]; omega
  have hneg : ¬ ((n : Int) < 0) := by omega
  have h48' : ¬ (281474976710656 < Builtin.nextslicecap n 0 * i.bytes) := by rw [nextslicecap_zero h0, hbt]; omega
  have h48i : ¬ (281474976710656 < (n : Int) * (i.bytes : Int)) := by
    rw [hbt]
    have : ((n * bytes : Nat) : Int) ≤ 140737488355328 := by omega
    rw [Int.natCast_mul] at this; omega
  have hnz : ¬ (n = 0 ∨ i.size = 0) := by rw [hs]; omega
  have hmx : max (n : Int) 0 = n := by omega
  have hle0 : ¬ ((n : Int) ≤ 0) := by omega
  have hge := grownCap_ge w n 0 e
  have hle := grownCap_le_maxLen w n 0 e h63
  have hzs : z.cells.size = size := T.hzs
  refine ⟨grownCap w n 0 e, w.drew.alloc (.cells (Builtin.zeroCells z.cells n ++ Builtin.zeroCells z.cells (grownCap w n 0 e - n)) e), ?_, ⟨by simp, .inr ⟨w.heap.size, _, Builtin.zeroCells z.cells n ++ Builtin.zeroCells z.cells (grownCap w n 0 e - n), rfl, Nat.le_refl _, ?_, Nat.zero_le _, hle, ?_, by simp⟩⟩, ?_, hge⟩
  · simp [Builtin.append_, run_underlying T.ht, run_underlying hit, Go.sizeOf, typeInfo, zeroValue, hi, hz, asInt, asIntOf, hw, hneg, hmx, hle0, hn, h63', h48', h48i, hnz, Question.forced, run_firstCells_none, newRow, grownCap, Builtin.firstCells]
    intro h
    exact absurd (Nat.mul_eq_zero.1 h) hnz
  · exact heap_alloc_new w.drew _
  · rw [Array.size_append, size_zeroCells, size_zeroCells, hzs, ← Nat.add_mul]; congr 1; omega
  · exact (bel_drew (Below.refl _ w)).alloc (Nat.le_refl _) _
section
variable {P : Program} {ops : Array Oper} {rest : List Oper} {o : Oper} {a : Act} {w : World} {Q : Exit → Act → World → Prop}
theorem appendMade {t e it : TypeId} {size bytes : Nat} {z : Value} {k : IntKind} (T : TI P t e size bytes z) (hit : P.underlying it = some (.int k)) (s x : Operand) (hg : o.guard = none) (ho : o.op = .call { callee := .builtin .append, args := #[s, x], argTypes := #[t, it] })
    (n : Nat) (hs : a.eval s = .slice none 0 0) (hx : a.eval x = .int .i64 (n : Int)) (h0 : 0 < n) (h63 : n ≤ maxLen) (hb : n * bytes ≤ 140737488355328) (hs0 : 0 < size)
    (h : ∀ c w', w'.ownsRow w.heap.size e size (.slice (some ⟨w.heap.size, 0, none⟩) 0 c) 0 [] → Below w.heap.size w w' → n ≤ c → wpList P ops Q rest (a.put o.dst (.slice (some ⟨w.heap.size, 0, none⟩) n c)) w') : wpList P ops Q (o :: rest) a w := by
  obtain ⟨c, w', hr, h2, h3, h4⟩ := run_append_made T hit o.type w n h0 h63 hb hs0
  refine run hg _ w' ?_ (h c w' h2 h3 h4)
  simp [execOp, ho, resolve, hs, hx, invoke, builtin, hr]
end
end Agg
end
