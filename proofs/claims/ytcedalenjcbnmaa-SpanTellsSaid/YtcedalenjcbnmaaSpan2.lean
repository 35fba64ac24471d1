/-
  THE WALKS OF LAYER 4 (span), second part: what all of a row come to.
-/
import Derived.Test.YtcedalenjcbnmaaSpan1
namespace Go.Proofs.Ytcedalenjcbnmaa
open Go.ChangeShapes Go.WideShapes Go.ChangeAt Go.RowKit Agg

theorem tiE : TI Try.prog 97 74 2 16 (.agg #[.int .i64 0, .int .i64 0]) := ⟨by kernel_rfl, by kernel_rfl, rfl, by decide⟩
theorem tiS : TI Try.prog 24 31 2 16 (.agg #[.int .i64 0, .int .i64 0]) := ⟨by kernel_rfl, by kernel_rfl, rfl, by decide⟩
def foldF (F : Sp → Sp → Sp) : List Sp → Sp
  | [] => (0, 0)
  | s :: r => r.foldl F s
theorem foldF_take (F : Sp → Sp → Sp) (l : List Sp) (k : Nat) (h : k < l.length) (h0 : 0 < k) : foldF F (l.take (k + 1)) = F (foldF F (l.take k)) l[k] := by
  cases l with
  | nil => simp at h
  | cons s r =>
    obtain ⟨j, rfl⟩ : ∃ j, k = j + 1 := ⟨k - 1, by omega⟩
    have hj : j < r.length := by simpa using h
    simp only [List.take_succ_cons, foldF, List.getElem_cons_succ]
    rw [List.take_succ_eq_append_getElem hj, List.foldl_append]; rfl
theorem foldF_one (F : Sp → Sp → Sp) (l : List Sp) (h : 0 < l.length) : foldF F (l.take (0 + 1)) = l[0] := by
  cases l with
  | nil => simp at h
  | cons s r => rfl
theorem folded_leastF (l : List Sp) (v : Value) (w : World) (hv : Spans w v l) (r : Sp) (hr : foldF leastF l = r) (q : Bool) (hq : decide (0 < l.length) = q) :
    Calls Try.prog 72 #[v, .func (.func 49) #[] #[]] w fun e w' => e = .returned (.tuple #[.agg #[.int .i64 r.1, .int .i64 r.2], .bool q]) ∧ Below w.heap.size w w' := by
  obtain ⟨x, cap, rfl, _, hm⟩ := hv.shape
  unfold maxLen at hm
  have HV := Lib.hid hv
  have HR := Lib.hid hr
  have HQ := Lib.hid hq
  have hgt : ((l.length : Int) > 0) ↔ 0 < l.length := by omega
  have HGT := Lib.hid hgt
  clear hv hr hq hgt
  have HB := Lib.hid (Below.refl w.heap.size w)
  go_enter Try.func72, Try.ntmps72
  go_wp2_with fail
  go_loopw [11] (fun i wr => ∃ k : Nat, k ≤ l.length ∧ i = .int .i64 k ∧ Below w.heap.size w wr ∧ Blk wr w.heap.size 74 [.int .i64 0, .int .i64 0] ∧ Blk wr (w.heap.size + 1) 74 [.int .i64 (foldF leastF (l.take k)).1, .int .i64 (foldF leastF (l.take k)).2]) (fun i _ => l.length - (intOf i).toNat)
  case atStart =>
    refine ⟨0, by omega, rfl, bel_alloc (bel_alloc HB.out _) _, ?_, ?_⟩
    · exact (Blk.new w 74 #[.int .i64 0, .int .i64 0]).keep ((Below.refl _ _).alloc (Nat.le_refl _) _)
    · have := Blk.new (w.alloc (.cells #[.int .i64 0, .int .i64 0] 74)) 74 #[.int .i64 0, .int .i64 0]
      simpa [foldF] using this
  case round =>
    obtain ⟨k, hk, rfl, hb, hg4, hg6⟩ := hrel
    replace HB := Lib.hid hb
    have H4 := Lib.hid hg4
    have H6 := Lib.hid hg6
    clear hb hg4 hg6
    by_cases hlt : k < l.length
    · obtain ⟨b, o, rfl, c1, c2, _⟩ := (HV.out.keep HB.out).at hlt
      have d0 := H6.out.cell 0
      have d1 := H6.out.cell 1
      have f0 := H6.out.frozen 0
      have f1 := H6.out.frozen 1
      simp only [List.getElem?_cons_zero, List.getElem?_cons_succ] at d0 d1
      have hsz := H6.out.lt
      rcases Nat.eq_zero_or_pos k with hk0 | hk0
      · subst hk0
        simp only [Nat.zero_mul, Nat.add_zero] at c1 c2
        have HE := Lib.hid (foldF_one leastF l hlt)
        go_wp2_with fail
        go_roundw
        case rel =>
          refine ⟨1, by omega, rfl, bel_alloc ((HB.out.setCell (by simp) _).setCell (by simp) _) _, ((H4.out.far (by simp) _).far (by simp) _).al _, ?_⟩
          rw [HE.out]; exact (H6.out.set2 (.int .i64 l[0].1) (.int .i64 l[0].2)).al _
        case measure => simp [intOf]; omega
      · have HE := Lib.hid (foldF_take leastF l k hlt hk0)
        generalize foldF leastF (l.take k) = p at *
        have hk0' : ((k : Int) == 0) = false := by simp; omega
        go_wp2_with fail
        refine Agg.calls_at fun w1 hw1 => ?_
        have hb : Below wr.heap.size wr w1 := by rw [hw1.out]; repeat (first | exact Below.refl _ _ | refine Agg.bel_drew ?_ | refine Agg.bel_alloc ?_ _)
        replace HB := Lib.hid (HB.out.trans (hb.mono HB.out.size))
        replace H4 := Lib.hid (H4.out.keep hb)
        replace H6 := Lib.hid (H6.out.keep hb)
        clear hb
        refine (leastF_any _ _ _ _ _).mono ?_
        rintro e w2 ⟨rfl, hb⟩
        replace HB := Lib.hid (HB.out.trans (hb.mono HB.out.size))
        replace H4 := Lib.hid (H4.out.keep hb)
        replace H6 := Lib.hid (H6.out.keep hb)
        clear hb
        have d0 := H6.out.cell 0
        have d1 := H6.out.cell 1
        have f0 := H6.out.frozen 0
        have f1 := H6.out.frozen 1
        simp only [List.getElem?_cons_zero, List.getElem?_cons_succ] at d0 d1
        go_wp2_with fail
        go_roundw
        case rel =>
          refine ⟨k + 1, by omega, by go_num, (HB.out.setCell (by simp) _).setCell (by simp) _, (H4.out.far (by simp) _).far (by simp) _, ?_⟩
          rw [HE.out]; exact H6.out.set2 _ _
        case measure => simp [intOf]; omega
    · obtain rfl : k = l.length := by omega
      rw [List.take_length, HR.out] at H6
      have d0 := H6.out.cell 0
      have d1 := H6.out.cell 1
      have e0 := H4.out.cell 0
      have e1 := H4.out.cell 1
      have f0 := H4.out.frozen 0
      have f1 := H4.out.frozen 1
      simp only [List.getElem?_cons_zero, List.getElem?_cons_succ] at d0 d1 e0 e1
      have hq2 := HQ.out
      go_wp2_with fail
      exact bodyPost_ret (v := .tuple #[.agg #[.int .i64 r.1, .int .i64 r.2], .bool q]) (by simp [results, Try.results72, go_sem, e0, e1]) rfl ⟨rfl, (HB.out.setCell (Nat.le_refl _) _).setCell (Nat.le_refl _) _⟩
theorem folded_mostF (l : List Sp) (v : Value) (w : World) (hv : Spans w v l) (r : Sp) (hr : foldF mostF l = r) (q : Bool) (hq : decide (0 < l.length) = q) :
    Calls Try.prog 72 #[v, .func (.func 50) #[] #[]] w fun e w' => e = .returned (.tuple #[.agg #[.int .i64 r.1, .int .i64 r.2], .bool q]) ∧ Below w.heap.size w w' := by
  obtain ⟨x, cap, rfl, _, hm⟩ := hv.shape
  unfold maxLen at hm
  have HV := Lib.hid hv
  have HR := Lib.hid hr
  have HQ := Lib.hid hq
  have hgt : ((l.length : Int) > 0) ↔ 0 < l.length := by omega
  have HGT := Lib.hid hgt
  clear hv hr hq hgt
  have HB := Lib.hid (Below.refl w.heap.size w)
  go_enter Try.func72, Try.ntmps72
  go_wp2_with fail
  go_loopw [11] (fun i wr => ∃ k : Nat, k ≤ l.length ∧ i = .int .i64 k ∧ Below w.heap.size w wr ∧ Blk wr w.heap.size 74 [.int .i64 0, .int .i64 0] ∧ Blk wr (w.heap.size + 1) 74 [.int .i64 (foldF mostF (l.take k)).1, .int .i64 (foldF mostF (l.take k)).2]) (fun i _ => l.length - (intOf i).toNat)
  case atStart =>
    refine ⟨0, by omega, rfl, bel_alloc (bel_alloc HB.out _) _, ?_, ?_⟩
    · exact (Blk.new w 74 #[.int .i64 0, .int .i64 0]).keep ((Below.refl _ _).alloc (Nat.le_refl _) _)
    · have := Blk.new (w.alloc (.cells #[.int .i64 0, .int .i64 0] 74)) 74 #[.int .i64 0, .int .i64 0]
      simpa [foldF] using this
  case round =>
    obtain ⟨k, hk, rfl, hb, hg4, hg6⟩ := hrel
    replace HB := Lib.hid hb
    have H4 := Lib.hid hg4
    have H6 := Lib.hid hg6
    clear hb hg4 hg6
    by_cases hlt : k < l.length
    · obtain ⟨b, o, rfl, c1, c2, _⟩ := (HV.out.keep HB.out).at hlt
      have d0 := H6.out.cell 0
      have d1 := H6.out.cell 1
      have f0 := H6.out.frozen 0
      have f1 := H6.out.frozen 1
      simp only [List.getElem?_cons_zero, List.getElem?_cons_succ] at d0 d1
      have hsz := H6.out.lt
      rcases Nat.eq_zero_or_pos k with hk0 | hk0
      · subst hk0
        simp only [Nat.zero_mul, Nat.add_zero] at c1 c2
        have HE := Lib.hid (foldF_one mostF l hlt)
        go_wp2_with fail
        go_roundw
        case rel =>
          refine ⟨1, by omega, rfl, bel_alloc ((HB.out.setCell (by simp) _).setCell (by simp) _) _, ((H4.out.far (by simp) _).far (by simp) _).al _, ?_⟩
          rw [HE.out]; exact (H6.out.set2 (.int .i64 l[0].1) (.int .i64 l[0].2)).al _
        case measure => simp [intOf]; omega
      · have HE := Lib.hid (foldF_take mostF l k hlt hk0)
        generalize foldF mostF (l.take k) = p at *
        have hk0' : ((k : Int) == 0) = false := by simp; omega
        go_wp2_with fail
        refine Agg.calls_at fun w1 hw1 => ?_
        have hb : Below wr.heap.size wr w1 := by rw [hw1.out]; repeat (first | exact Below.refl _ _ | refine Agg.bel_drew ?_ | refine Agg.bel_alloc ?_ _)
        replace HB := Lib.hid (HB.out.trans (hb.mono HB.out.size))
        replace H4 := Lib.hid (H4.out.keep hb)
        replace H6 := Lib.hid (H6.out.keep hb)
        clear hb
        refine (mostF_any _ _ _ _ _).mono ?_
        rintro e w2 ⟨rfl, hb⟩
        replace HB := Lib.hid (HB.out.trans (hb.mono HB.out.size))
        replace H4 := Lib.hid (H4.out.keep hb)
        replace H6 := Lib.hid (H6.out.keep hb)
        clear hb
        have d0 := H6.out.cell 0
        have d1 := H6.out.cell 1
        have f0 := H6.out.frozen 0
        have f1 := H6.out.frozen 1
        simp only [List.getElem?_cons_zero, List.getElem?_cons_succ] at d0 d1
        go_wp2_with fail
        go_roundw
        case rel =>
          refine ⟨k + 1, by omega, by go_num, (HB.out.setCell (by simp) _).setCell (by simp) _, (H4.out.far (by simp) _).far (by simp) _, ?_⟩
          rw [HE.out]; exact H6.out.set2 _ _
        case measure => simp [intOf]; omega
    · obtain rfl : k = l.length := by omega
      rw [List.take_length, HR.out] at H6
      have d0 := H6.out.cell 0
      have d1 := H6.out.cell 1
      have e0 := H4.out.cell 0
      have e1 := H4.out.cell 1
      have f0 := H4.out.frozen 0
      have f1 := H4.out.frozen 1
      simp only [List.getElem?_cons_zero, List.getElem?_cons_succ] at d0 d1 e0 e1
      have hq2 := HQ.out
      go_wp2_with fail
      exact bodyPost_ret (v := .tuple #[.agg #[.int .i64 r.1, .int .i64 r.2], .bool q]) (by simp [results, Try.results72, go_sem, e0, e1]) rfl ⟨rfl, (HB.out.setCell (Nat.le_refl _) _).setCell (Nat.le_refl _) _⟩
theorem folded_joinF (l : List Sp) (v : Value) (w : World) (hv : Spans w v l) (r : Sp) (hr : foldF joinF l = r) (q : Bool) (hq : decide (0 < l.length) = q) :
    Calls Try.prog 72 #[v, .func (.func 51) #[] #[]] w fun e w' => e = .returned (.tuple #[.agg #[.int .i64 r.1, .int .i64 r.2], .bool q]) ∧ Below w.heap.size w w' := by
  obtain ⟨x, cap, rfl, _, hm⟩ := hv.shape
  unfold maxLen at hm
  have HV := Lib.hid hv
  have HR := Lib.hid hr
  have HQ := Lib.hid hq
  have hgt : ((l.length : Int) > 0) ↔ 0 < l.length := by omega
  have HGT := Lib.hid hgt
  clear hv hr hq hgt
  have HB := Lib.hid (Below.refl w.heap.size w)
  go_enter Try.func72, Try.ntmps72
  go_wp2_with fail
  go_loopw [11] (fun i wr => ∃ k : Nat, k ≤ l.length ∧ i = .int .i64 k ∧ Below w.heap.size w wr ∧ Blk wr w.heap.size 74 [.int .i64 0, .int .i64 0] ∧ Blk wr (w.heap.size + 1) 74 [.int .i64 (foldF joinF (l.take k)).1, .int .i64 (foldF joinF (l.take k)).2]) (fun i _ => l.length - (intOf i).toNat)
  case atStart =>
    refine ⟨0, by omega, rfl, bel_alloc (bel_alloc HB.out _) _, ?_, ?_⟩
    · exact (Blk.new w 74 #[.int .i64 0, .int .i64 0]).keep ((Below.refl _ _).alloc (Nat.le_refl _) _)
    · have := Blk.new (w.alloc (.cells #[.int .i64 0, .int .i64 0] 74)) 74 #[.int .i64 0, .int .i64 0]
      simpa [foldF] using this
  case round =>
    obtain ⟨k, hk, rfl, hb, hg4, hg6⟩ := hrel
    replace HB := Lib.hid hb
    have H4 := Lib.hid hg4
    have H6 := Lib.hid hg6
    clear hb hg4 hg6
    by_cases hlt : k < l.length
    · obtain ⟨b, o, rfl, c1, c2, _⟩ := (HV.out.keep HB.out).at hlt
      have d0 := H6.out.cell 0
      have d1 := H6.out.cell 1
      have f0 := H6.out.frozen 0
      have f1 := H6.out.frozen 1
      simp only [List.getElem?_cons_zero, List.getElem?_cons_succ] at d0 d1
      have hsz := H6.out.lt
      rcases Nat.eq_zero_or_pos k with hk0 | hk0
      · subst hk0
        simp only [Nat.zero_mul, Nat.add_zero] at c1 c2
        have HE := Lib.hid (foldF_one joinF l hlt)
        go_wp2_with fail
        go_roundw
        case rel =>
          refine ⟨1, by omega, rfl, bel_alloc ((HB.out.setCell (by simp) _).setCell (by simp) _) _, ((H4.out.far (by simp) _).far (by simp) _).al _, ?_⟩
          rw [HE.out]; exact (H6.out.set2 (.int .i64 l[0].1) (.int .i64 l[0].2)).al _
        case measure => simp [intOf]; omega
      · have HE := Lib.hid (foldF_take joinF l k hlt hk0)
        generalize foldF joinF (l.take k) = p at *
        have hk0' : ((k : Int) == 0) = false := by simp; omega
        go_wp2_with fail
        refine Agg.calls_at fun w1 hw1 => ?_
        have hb : Below wr.heap.size wr w1 := by rw [hw1.out]; repeat (first | exact Below.refl _ _ | refine Agg.bel_drew ?_ | refine Agg.bel_alloc ?_ _)
        replace HB := Lib.hid (HB.out.trans (hb.mono HB.out.size))
        replace H4 := Lib.hid (H4.out.keep hb)
        replace H6 := Lib.hid (H6.out.keep hb)
        clear hb
        refine (joinF_any _ _ _ _ _).mono ?_
        rintro e w2 ⟨rfl, hb⟩
        replace HB := Lib.hid (HB.out.trans (hb.mono HB.out.size))
        replace H4 := Lib.hid (H4.out.keep hb)
        replace H6 := Lib.hid (H6.out.keep hb)
        clear hb
        have d0 := H6.out.cell 0
        have d1 := H6.out.cell 1
        have f0 := H6.out.frozen 0
        have f1 := H6.out.frozen 1
        simp only [List.getElem?_cons_zero, List.getElem?_cons_succ] at d0 d1
        go_wp2_with fail
        go_roundw
        case rel =>
          refine ⟨k + 1, by omega, by go_num, (HB.out.setCell (by simp) _).setCell (by simp) _, (H4.out.far (by simp) _).far (by simp) _, ?_⟩
          rw [HE.out]; exact H6.out.set2 _ _
        case measure => simp [intOf]; omega
    · obtain rfl : k = l.length := by omega
      rw [List.take_length, HR.out] at H6
      have d0 := H6.out.cell 0
      have d1 := H6.out.cell 1
      have e0 := H4.out.cell 0
      have e1 := H4.out.cell 1
      have f0 := H4.out.frozen 0
      have f1 := H4.out.frozen 1
      simp only [List.getElem?_cons_zero, List.getElem?_cons_succ] at d0 d1 e0 e1
      have hq2 := HQ.out
      go_wp2_with fail
      exact bodyPost_ret (v := .tuple #[.agg #[.int .i64 r.1, .int .i64 r.2], .bool q]) (by simp [results, Try.results72, go_sem, e0, e1]) rfl ⟨rfl, (HB.out.setCell (Nat.le_refl _) _).setCell (Nat.le_refl _) _⟩
theorem folded_meetF (l : List Sp) (v : Value) (w : World) (hv : Spans w v l) (r : Sp) (hr : foldF meetF l = r) (q : Bool) (hq : decide (0 < l.length) = q) :
    Calls Try.prog 72 #[v, .func (.func 52) #[] #[]] w fun e w' => e = .returned (.tuple #[.agg #[.int .i64 r.1, .int .i64 r.2], .bool q]) ∧ Below w.heap.size w w' := by
  obtain ⟨x, cap, rfl, _, hm⟩ := hv.shape
  unfold maxLen at hm
  have HV := Lib.hid hv
  have HR := Lib.hid hr
  have HQ := Lib.hid hq
  have hgt : ((l.length : Int) > 0) ↔ 0 < l.length := by omega
  have HGT := Lib.hid hgt
  clear hv hr hq hgt
  have HB := Lib.hid (Below.refl w.heap.size w)
  go_enter Try.func72, Try.ntmps72
  go_wp2_with fail
  go_loopw [11] (fun i wr => ∃ k : Nat, k ≤ l.length ∧ i = .int .i64 k ∧ Below w.heap.size w wr ∧ Blk wr w.heap.size 74 [.int .i64 0, .int .i64 0] ∧ Blk wr (w.heap.size + 1) 74 [.int .i64 (foldF meetF (l.take k)).1, .int .i64 (foldF meetF (l.take k)).2]) (fun i _ => l.length - (intOf i).toNat)
  case atStart =>
    refine ⟨0, by omega, rfl, bel_alloc (bel_alloc HB.out _) _, ?_, ?_⟩
    · exact (Blk.new w 74 #[.int .i64 0, .int .i64 0]).keep ((Below.refl _ _).alloc (Nat.le_refl _) _)
    · have := Blk.new (w.alloc (.cells #[.int .i64 0, .int .i64 0] 74)) 74 #[.int .i64 0, .int .i64 0]
      simpa [foldF] using this
  case round =>
    obtain ⟨k, hk, rfl, hb, hg4, hg6⟩ := hrel
    replace HB := Lib.hid hb
    have H4 := Lib.hid hg4
    have H6 := Lib.hid hg6
    clear hb hg4 hg6
    by_cases hlt : k < l.length
    · obtain ⟨b, o, rfl, c1, c2, _⟩ := (HV.out.keep HB.out).at hlt
      have d0 := H6.out.cell 0
      have d1 := H6.out.cell 1
      have f0 := H6.out.frozen 0
      have f1 := H6.out.frozen 1
      simp only [List.getElem?_cons_zero, List.getElem?_cons_succ] at d0 d1
      have hsz := H6.out.lt
      rcases Nat.eq_zero_or_pos k with hk0 | hk0
      · subst hk0
        simp only [Nat.zero_mul, Nat.add_zero] at c1 c2
        have HE := Lib.hid (foldF_one meetF l hlt)
        go_wp2_with fail
        go_roundw
        case rel =>
          refine ⟨1, by omega, rfl, bel_alloc ((HB.out.setCell (by simp) _).setCell (by simp) _) _, ((H4.out.far (by simp) _).far (by simp) _).al _, ?_⟩
          rw [HE.out]; exact (H6.out.set2 (.int .i64 l[0].1) (.int .i64 l[0].2)).al _
        case measure => simp [intOf]; omega
      · have HE := Lib.hid (foldF_take meetF l k hlt hk0)
        generalize foldF meetF (l.take k) = p at *
        have hk0' : ((k : Int) == 0) = false := by simp; omega
        go_wp2_with fail
        refine Agg.calls_at fun w1 hw1 => ?_
        have hb : Below wr.heap.size wr w1 := by rw [hw1.out]; repeat (first | exact Below.refl _ _ | refine Agg.bel_drew ?_ | refine Agg.bel_alloc ?_ _)
        replace HB := Lib.hid (HB.out.trans (hb.mono HB.out.size))
        replace H4 := Lib.hid (H4.out.keep hb)
        replace H6 := Lib.hid (H6.out.keep hb)
        clear hb
        refine (meetF_any _ _ _ _ _).mono ?_
        rintro e w2 ⟨rfl, hb⟩
        replace HB := Lib.hid (HB.out.trans (hb.mono HB.out.size))
        replace H4 := Lib.hid (H4.out.keep hb)
        replace H6 := Lib.hid (H6.out.keep hb)
        clear hb
        have d0 := H6.out.cell 0
        have d1 := H6.out.cell 1
        have f0 := H6.out.frozen 0
        have f1 := H6.out.frozen 1
        simp only [List.getElem?_cons_zero, List.getElem?_cons_succ] at d0 d1
        go_wp2_with fail
        go_roundw
        case rel =>
          refine ⟨k + 1, by omega, by go_num, (HB.out.setCell (by simp) _).setCell (by simp) _, (H4.out.far (by simp) _).far (by simp) _, ?_⟩
          rw [HE.out]; exact H6.out.set2 _ _
        case measure => simp [intOf]; omega
    · obtain rfl : k = l.length := by omega
      rw [List.take_length, HR.out] at H6
      have d0 := H6.out.cell 0
      have d1 := H6.out.cell 1
      have e0 := H4.out.cell 0
      have e1 := H4.out.cell 1
      have f0 := H4.out.frozen 0
      have f1 := H4.out.frozen 1
      simp only [List.getElem?_cons_zero, List.getElem?_cons_succ] at d0 d1 e0 e1
      have hq2 := HQ.out
      go_wp2_with fail
      exact bodyPost_ret (v := .tuple #[.agg #[.int .i64 r.1, .int .i64 r.2], .bool q]) (by simp [results, Try.results72, go_sem, e0, e1]) rfl ⟨rfl, (HB.out.setCell (Nat.le_refl _) _).setCell (Nat.le_refl _) _⟩
end Go.Proofs.Ytcedalenjcbnmaa
