/-
  THE WALKS OF LAYER 4 (span), third part: what spans come to, two and two.
-/
import Derived.Test.YtchpkgneloiidaaPmS2
namespace Go.Proofs.Ytchpkgneloiidaa
open Go.ChangeShapes Go.WideShapes Go.ChangeAt Go.RowKit Agg

def tog (F : Sp → Sp → Sp) (l : List Sp) : Sp × Int :=
  if okAll l then (if l.length = 0 then ((0, 0), 9) else if (foldF F l).1 ≤ (foldF F l).2 then (foldF F l, 0) else ((0, 0), 9)) else ((0, 0), 140)
theorem spC_append (l m : List Sp) : spC (l ++ m) = spC l ++ spC m := List.flatMap_append
theorem spC_succ (l : List Sp) (k : Nat) (h : k < l.length) : spC (l.take k) ++ [.int .i64 l[k].1, .int .i64 l[k].2] = spC (l.take (k + 1)) := by
  rw [List.take_succ_eq_append_getElem h, spC_append]; rfl
set_option maxHeartbeats 1000000 in
theorem together_meetF (l : List Sp) (v : Value) (w : World) (hv : Spans w v l) (hn : l.length ≤ 1000) (r : Sp) (er : Int) (hr : tog meetF l = (r, er)) :
    Calls Try.prog 60 #[v, .func (.func 61) #[] #[]] w fun e w' => e = .returned (.tuple #[.agg #[.int .i64 r.1, .int .i64 r.2], .int .i64 er]) ∧ Below w.heap.size w w' := by
  obtain ⟨x, cap, rfl, _, hm⟩ := hv.shape
  unfold maxLen at hm
  have HV := Lib.hid hv
  have HR := Lib.hid hr
  clear hv hr
  by_cases hok : okAll l = true
  · have HE : Hid (okE l = 0) := if_pos hok
    have HOK := Lib.hid hok
    clear hok
    have HB := Lib.hid (Below.refl w.heap.size w)
    go_enter Try.func60, Try.ntmps60
    go_wp2_with fail
    have HV0 := Lib.hid HV.out
    refine Agg.calls_at fun w1 hw1 => ?_
    have hb : Below w.heap.size w w1 := by rw [hw1.out]; repeat (first | exact Below.refl _ _ | refine Agg.bel_drew ?_ | refine Agg.bel_alloc ?_ _)
    replace HB := Lib.hid (HB.out.trans (hb.mono HB.out.size))
    replace HV0 := Lib.hid (HV0.out.keep hb)
    clear hb
    have HG : Hid (Blk w1 w.heap.size 26 [.int .i64 0, .int .i64 0]) := by show Blk _ _ _ _; rw [hw1.out]; exact Blk.new w 26 #[.int .i64 0, .int .i64 0]
    have hz1 : w1.heap.size = w.heap.size + 1 := by rw [hw1.out]; simp
    have HZ := Lib.hid hz1
    clear hw1 hz1
    refine (checked_any l _ w1 HV0.out).mono ?_
    rintro e w2 ⟨rfl, hb⟩
    replace HB := Lib.hid (HB.out.trans (hb.mono HB.out.size))
    replace HV0 := Lib.hid (HV0.out.keep hb)
    replace HG := Lib.hid (HG.out.keep hb)
    clear hb
    rw [HE.out]
    go_wp2_with fail
    go_loopw [21, 7] (fun i v wr => ∃ k : Nat, k ≤ l.length ∧ i = .int .i64 k ∧ Below w2.heap.size w2 wr ∧ wr.ownsRow w2.heap.size 105 2 v k (spC (l.take k))) (fun i _ _ => l.length - (intOf i).toNat)
    case atStart => exact ⟨0, by omega, rfl, Below.refl _ _, World.ownsRow_nil _ _ _ _⟩
    case round =>
      obtain ⟨k, hk, rfl, hb, ho⟩ := hrel
      have HK := Lib.hid hb
      have HO := Lib.hid ho
      clear hb ho
      by_cases hlt : k < l.length
      · obtain ⟨b, o, rfl, c1, c2, _⟩ := (HV0.out.keep HK.out).at hlt
        have HSU := Lib.hid (spC_succ l k hlt)
        clear HB
        have HB := HK
        go_wp2_with fail
        refine Agg.calls_at fun w3 hw3 => ?_
        have hb : Below wr.heap.size wr w3 := by rw [hw3.out]; repeat (first | exact Below.refl _ _ | refine Agg.bel_drew ?_ | refine Agg.bel_alloc ?_ _)
        replace HB := Lib.hid (HB.out.trans (hb.mono HB.out.size))
        replace HO := Lib.hid (HO.out.keep hb)
        clear hb
        refine (of_any _ _ _).mono ?_
        rintro e w4 ⟨rfl, hb⟩
        replace HB := Lib.hid (HB.out.trans (hb.mono HB.out.size))
        replace HO := Lib.hid (HO.out.keep hb)
        clear hb
        go_wp2_with (refine Agg.append2 tiE (.tmp 25) (.tmp 28) rfl rfl w2.heap.size (n := k) rfl (HO.out.keep (bel_alloc (Below.refl _ _) _)) (m := 1) (news := [.int .i64 l[k].1, .int .i64 l[k].2]) rfl (sl_new _ _ _ 1 2 rfl (by decide)) (by simp [Value.oneCell']) (by unfold maxLen; omega) (by omega) (Nat.le_trans HB.out.size (by simp)) ?_; intro v6 w6 ho6 hgb _; simp only [Act.put, List.setIfInBounds_toArray, List.set_cons_succ, List.set_cons_zero])
        have HB6 := Lib.hid ((bel_alloc HB.out _).trans (grown_below hgb (Nat.le_trans HB.out.size (by simp)) (own_block HO.out)))
        rw [HSU.out] at ho6
        have HO6 := Lib.hid ho6
        clear hgb ho6
        go_wp2_with fail
        go_roundw
        case rel => exact ⟨k + 1, by omega, by go_num, HB6.out, HO6.out⟩
        case measure => simp [intOf]; omega
      · obtain rfl : k = l.length := by omega
        rw [List.take_length] at HO
        replace HB := Lib.hid (HB.out.trans (HK.out.mono HB.out.size))
        replace HG := Lib.hid (HG.out.keep HK.out)
        have HV2 : Hid (Spans wr u7 l) := ownSl HO.out
        obtain ⟨p, hp⟩ : ∃ p, foldF meetF l = p := ⟨_, rfl⟩
        have HP := Lib.hid hp
        clear HK hp HO
        rcases Nat.eq_zero_or_pos l.length with h0 | h0
        · have HQ : Hid (decide (0 < l.length) = false) := by show _ = _; simp [h0]
          have HRR : Hid (r = (0, 0) ∧ er = 9) := by
            show _ ∧ _
            have := HR.out
            rw [tog, if_pos HOK.out, if_pos h0] at this
            simp only [Prod.mk.injEq] at this
            exact ⟨this.1.symm, this.2.symm⟩
          go_wp2_with fail
          refine (folded_meetF l _ wr HV2.out p HP.out false HQ.out).mono ?_
          rintro e w5 ⟨rfl, hb⟩
          replace HB := Lib.hid (HB.out.trans (hb.mono HB.out.size))
          replace HG := Lib.hid (HG.out.keep hb)
          clear hb
          go_wp2_with fail
          refine Agg.calls_at fun w6 hw6 => ?_
          have hb : Below w5.heap.size w5 w6 := by rw [hw6.out]; repeat (first | exact Below.refl _ _ | refine Agg.bel_drew ?_ | refine Agg.bel_alloc ?_ _)
          replace HB := Lib.hid (HB.out.trans (hb.mono HB.out.size))
          replace HG := Lib.hid (HG.out.keep hb)
          clear hb
          refine (span_any _ _ _).mono ?_
          rintro e w7 ⟨rfl, hb⟩
          replace HB := Lib.hid (HB.out.trans (hb.mono HB.out.size))
          replace HG := Lib.hid (HG.out.keep hb)
          clear hb
          have e0 := HG.out.cell 0
          have hlt := HG.out.lt
          have e1 := HG.out.cell 1
          have f0 := HG.out.frozen 0
          have f1 := HG.out.frozen 1
          simp only [List.getElem?_cons_zero, List.getElem?_cons_succ] at e0 e1
          go_wp2_with fail
          obtain ⟨rfl, rfl⟩ := HRR.out
          exact bodyPost_ret (v := .tuple #[.agg #[.int .i64 0, .int .i64 0], .int .i64 9]) (by simp [results, Try.results60, go_sem, e0, e1, hlt]) rfl ⟨rfl, by first | exact (bel_alloc ((HB.out.setCell (Nat.le_refl _) _).setCell (Nat.le_refl _) _) _) | exact ((bel_alloc HB.out _).setCell (Nat.le_refl _) _).setCell (Nat.le_refl _) _⟩
        · have HQ : Hid (decide (0 < l.length) = true) := by show _ = _; simp [h0]
          have h0' : ¬ l.length = 0 := by omega
          by_cases hle : p.1 ≤ p.2
          · have HC : Hid (ckE (p.1, p.2) = 0) := if_neg (by simpa using hle)
            have HRR : Hid (r = p ∧ er = 0) := by
              show _ ∧ _
              have := HR.out
              rw [tog, if_pos HOK.out, if_neg h0', HP.out, if_pos hle] at this
              simp only [Prod.mk.injEq] at this
              exact ⟨this.1.symm, this.2.symm⟩
            clear hle h0'
            go_wp2_with fail
            refine (folded_meetF l _ wr HV2.out p HP.out true HQ.out).mono ?_
            rintro e w8 ⟨rfl, hb⟩
            replace HB := Lib.hid (HB.out.trans (hb.mono HB.out.size))
            replace HG := Lib.hid (HG.out.keep hb)
            clear hb
            go_wp2_with fail
            refine Agg.calls_at fun w9 hw9 => ?_
            have hb : Below w8.heap.size w8 w9 := by rw [hw9.out]; repeat (first | exact Below.refl _ _ | refine Agg.bel_drew ?_ | refine Agg.bel_alloc ?_ _)
            replace HB := Lib.hid (HB.out.trans (hb.mono HB.out.size))
            replace HG := Lib.hid (HG.out.keep hb)
            clear hb
            refine (span_any _ _ _).mono ?_
            rintro e w10 ⟨rfl, hb⟩
            replace HB := Lib.hid (HB.out.trans (hb.mono HB.out.size))
            replace HG := Lib.hid (HG.out.keep hb)
            clear hb
            go_wp2_with fail
            refine Agg.calls_at fun w11 hw11 => ?_
            have hb : Below w10.heap.size w10 w11 := by rw [hw11.out]; repeat (first | exact Below.refl _ _ | refine Agg.bel_drew ?_ | refine Agg.bel_alloc ?_ _)
            replace HB := Lib.hid (HB.out.trans (hb.mono HB.out.size))
            replace HG := Lib.hid (HG.out.keep hb)
            clear hb
            have HT : Hid (Blk w11 w10.heap.size 26 [.int .i64 p.1, .int .i64 p.2]) := by show Blk _ _ _ _; rw [hw11.out]; exact Blk.new w10 26 #[.int .i64 p.1, .int .i64 p.2]
            clear hw11
            refine (check_any _ _ _).mono ?_
            rintro e w12 ⟨rfl, hb⟩
            replace HB := Lib.hid (HB.out.trans (hb.mono HB.out.size))
            replace HG := Lib.hid (HG.out.keep hb)
            replace HT := Lib.hid (HT.out.keep hb)
            clear hb
            rw [HC.out]
            have e0 := HG.out.cell 0
            have hlt := HG.out.lt
            have e1 := HG.out.cell 1
            have f0 := HG.out.frozen 0
            have f1 := HG.out.frozen 1
            have d0 := HT.out.cell 0
            have d1 := HT.out.cell 1
            simp only [List.getElem?_cons_zero, List.getElem?_cons_succ] at e0 e1 d0 d1
            go_wp2_with fail
            obtain ⟨rfl, rfl⟩ := HRR.out
            exact bodyPost_ret (v := .tuple #[.agg #[.int .i64 r.1, .int .i64 r.2], .int .i64 0]) (by simp [results, Try.results60, go_sem, e0, e1]) rfl ⟨rfl, (HB.out.setCell (Nat.le_refl _) _).setCell (Nat.le_refl _) _⟩
          · have HC : Hid (ckE (p.1, p.2) = 140) := if_pos (by simpa using hle)
            have HRR : Hid (r = (0, 0) ∧ er = 9) := by
              show _ ∧ _
              have := HR.out
              rw [tog, if_pos HOK.out, if_neg h0', HP.out, if_neg hle] at this
              simp only [Prod.mk.injEq] at this
              exact ⟨this.1.symm, this.2.symm⟩
            clear hle h0'
            go_wp2_with fail
            refine (folded_meetF l _ wr HV2.out p HP.out true HQ.out).mono ?_
            rintro e w13 ⟨rfl, hb⟩
            replace HB := Lib.hid (HB.out.trans (hb.mono HB.out.size))
            replace HG := Lib.hid (HG.out.keep hb)
            clear hb
            go_wp2_with fail
            refine Agg.calls_at fun w14 hw14 => ?_
            have hb : Below w13.heap.size w13 w14 := by rw [hw14.out]; repeat (first | exact Below.refl _ _ | refine Agg.bel_drew ?_ | refine Agg.bel_alloc ?_ _)
            replace HB := Lib.hid (HB.out.trans (hb.mono HB.out.size))
            replace HG := Lib.hid (HG.out.keep hb)
            clear hb
            refine (span_any _ _ _).mono ?_
            rintro e w15 ⟨rfl, hb⟩
            replace HB := Lib.hid (HB.out.trans (hb.mono HB.out.size))
            replace HG := Lib.hid (HG.out.keep hb)
            clear hb
            go_wp2_with fail
            refine Agg.calls_at fun w16 hw16 => ?_
            have hb : Below w15.heap.size w15 w16 := by rw [hw16.out]; repeat (first | exact Below.refl _ _ | refine Agg.bel_drew ?_ | refine Agg.bel_alloc ?_ _)
            replace HB := Lib.hid (HB.out.trans (hb.mono HB.out.size))
            replace HG := Lib.hid (HG.out.keep hb)
            clear hb
            refine (check_any _ _ _).mono ?_
            rintro e w17 ⟨rfl, hb⟩
            replace HB := Lib.hid (HB.out.trans (hb.mono HB.out.size))
            replace HG := Lib.hid (HG.out.keep hb)
            clear hb
            rw [HC.out]
            have e0 := HG.out.cell 0
            have hlt := HG.out.lt
            have e1 := HG.out.cell 1
            have f0 := HG.out.frozen 0
            have f1 := HG.out.frozen 1
            simp only [List.getElem?_cons_zero, List.getElem?_cons_succ] at e0 e1
            go_wp2_with fail
            obtain ⟨rfl, rfl⟩ := HRR.out
            exact bodyPost_ret (v := .tuple #[.agg #[.int .i64 0, .int .i64 0], .int .i64 9]) (by simp [results, Try.results60, go_sem, e0, e1]) rfl ⟨rfl, (HB.out.setCell (Nat.le_refl _) _).setCell (Nat.le_refl _) _⟩
  · have HE : Hid (okE l = 140) := if_neg hok
    have HRR : Hid (r = (0, 0) ∧ er = 140) := by
      show _ ∧ _
      have := HR.out
      rw [tog, if_neg hok] at this
      simp only [Prod.mk.injEq] at this
      exact ⟨this.1.symm, this.2.symm⟩
    clear hok
    have HB := Lib.hid (Below.refl w.heap.size w)
    go_enter Try.func60, Try.ntmps60
    go_wp2_with fail
    have HV0 := Lib.hid HV.out
    refine Agg.calls_at fun w1 hw1 => ?_
    have hb : Below w.heap.size w w1 := by rw [hw1.out]; repeat (first | exact Below.refl _ _ | refine Agg.bel_drew ?_ | refine Agg.bel_alloc ?_ _)
    replace HB := Lib.hid (HB.out.trans (hb.mono HB.out.size))
    replace HV0 := Lib.hid (HV0.out.keep hb)
    clear hb
    have HG : Hid (Blk w1 w.heap.size 26 [.int .i64 0, .int .i64 0]) := by show Blk _ _ _ _; rw [hw1.out]; exact Blk.new w 26 #[.int .i64 0, .int .i64 0]
    clear hw1
    refine (checked_any l _ w1 HV0.out).mono ?_
    rintro e w2 ⟨rfl, hb⟩
    replace HB := Lib.hid (HB.out.trans (hb.mono HB.out.size))
    replace HV0 := Lib.hid (HV0.out.keep hb)
    replace HG := Lib.hid (HG.out.keep hb)
    clear hb
    rw [HE.out]
    have e0 := HG.out.cell 0
    have e1 := HG.out.cell 1
    have f0 := HG.out.frozen 0
    have f1 := HG.out.frozen 1
    simp only [List.getElem?_cons_zero, List.getElem?_cons_succ] at e0 e1
    go_wp2_with fail
    obtain ⟨rfl, rfl⟩ := HRR.out
    exact bodyPost_ret (v := .tuple #[.agg #[.int .i64 0, .int .i64 0], .int .i64 140]) (by simp [results, Try.results60, go_sem, e0, e1]) rfl ⟨rfl, (HB.out.setCell (Nat.le_refl _) _).setCell (Nat.le_refl _) _⟩
end Go.Proofs.Ytchpkgneloiidaa
