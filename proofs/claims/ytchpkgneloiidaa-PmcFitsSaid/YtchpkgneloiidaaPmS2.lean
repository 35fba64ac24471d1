/-
  THE WALKS OF LAYER 4 (span), first part: what only computes.
-/
import Derived.Test.YtchpkgneloiidaaRows
import Derived.WalkKit
import Derived.ProofKit
import Derived.OpenShut
import Derived.Below
import Derived.StillTailTactics
import Derived.Lib.Hide
import Derived.BigQuiet
import Derived.Deep.QuietTactic
import Derived.Test.YtchpkgneloiidaaCopy
section
namespace Go.Proofs.Ytchpkgneloiidaa
open Go.ChangeShapes Go.WideShapes Go.ChangeAt Go.RowKit Agg

abbrev Sp := Int × Int
/-- the cells of spans -/
def spC (l : List Sp) : List Value := l.flatMap fun s => [.int .i64 s.1, .int .i64 s.2]
theorem spC_length (l : List Sp) : (spC l).length = l.length * 2 := by
  induction l with
  | nil => rfl
  | cons a l ih => simp [spC] at ih ⊢; omega
theorem spC_cons (s : Sp) (l : List Sp) : spC (s :: l) = .int .i64 s.1 :: .int .i64 s.2 :: spC l := rfl
theorem spC_get (l : List Sp) : ∀ (k : Nat) (h : k < l.length), (spC l)[k * 2]? = some (.int .i64 l[k].1) ∧ (spC l)[k * 2 + 1]? = some (.int .i64 l[k].2) := by
  induction l with
  | nil => intro k h; simp at h
  | cons a l ih =>
    intro k h
    cases k with
    | zero => exact ⟨rfl, rfl⟩
    | succ k =>
      have := ih k (by simpa using h)
      rw [spC_cons, show (k + 1) * 2 = k * 2 + 1 + 1 by omega]
      simpa using this
theorem spC_one (l : List Sp) : ∀ u ∈ spC l, u.oneCell' = true := by
  intro u hu
  obtain ⟨s, _, hs⟩ := List.mem_flatMap.1 hu
  simp at hs
  rcases hs with rfl | rfl <;> rfl
/-- a slice that reads as spans -/
def Spans (w : World) (v : Value) (l : List Sp) : Prop := SlR w v 2 l.length (spC l)
theorem Spans.keep {w w' : World} {v : Value} {l : List Sp} (h : Spans w v l) (hb : Below w.heap.size w w') : Spans w' v l := SlR.keep h hb
theorem Spans.pos {w : World} {v : Value} {l : List Sp} (h : Spans w v l) (hn : 0 < l.length) :
    ∃ b o cap, v = .slice (some ⟨b, o, none⟩) l.length cap ∧ l.length ≤ cap ∧ cap ≤ maxLen ∧ (∀ (k : Nat) (hk : k < l.length), w.cell? ⟨b, o + k * 2, none⟩ = some (.int .i64 l[k].1) ∧ w.cell? ⟨b, o + k * 2 + 1, none⟩ = some (.int .i64 l[k].2)) ∧ b < w.heap.size := by
  obtain ⟨b, o, cap, hv, h1, h2, h3, h4⟩ := SlR.pos h (by decide) hn
  refine ⟨b, o, cap, hv, h1, h2, fun k hk => ?_, h4⟩
  have := spC_get l k hk
  exact ⟨h3 _ _ this.1, by have := h3 _ _ this.2; rwa [← Nat.add_assoc] at this⟩

def ckE (s : Sp) : Int := if s.2 < s.1 then 140 else 0
def okAll (l : List Sp) : Bool := l.all fun s => decide (s.1 ≤ s.2)

theorem check_any (a b : Int) (w : World) :
    Calls Try.prog 42 #[.agg #[.int .i64 a, .int .i64 b]] w fun e w' => e = .returned (.int .i64 (ckE (a, b))) ∧ Below w.heap.size w w' := by
  by_cases h : b < a
  · have HE : Hid (ckE (a, b) = 140) := if_pos h
    have HB := Lib.hid (Below.refl w.heap.size w)
    go_enter Try.func42, Try.ntmps42
    go_wp2
    go_ret
    exact ⟨by rw [HE.out]; rfl, bel_alloc HB.out _⟩
  · have HE : Hid (ckE (a, b) = 0) := if_neg h
    have HB := Lib.hid (Below.refl w.heap.size w)
    go_enter Try.func42, Try.ntmps42
    go_wp2
    go_ret
    exact ⟨by rw [HE.out]; rfl, bel_alloc HB.out _⟩
theorem Spans.shape {w : World} {v : Value} {l : List Sp} (h : Spans w v l) : ∃ x cap, v = .slice x l.length cap ∧ l.length ≤ cap ∧ cap ≤ maxLen := SlR.shape h
theorem Spans.at {w : World} {x : Option Addr} {n cap : Nat} {l : List Sp} (h : Spans w (.slice x n cap) l) {k : Nat} (hk : k < l.length) :
    ∃ b o, x = some ⟨b, o, none⟩ ∧ w.cell? ⟨b, o + k * 2, none⟩ = some (.int .i64 l[k].1) ∧ w.cell? ⟨b, o + k * 2 + 1, none⟩ = some (.int .i64 l[k].2) ∧ b < w.heap.size := by
  obtain ⟨b, o, cap', hv, _, _, hc, hb⟩ := h.pos (by omega)
  simp only [Value.slice.injEq] at hv
  exact ⟨b, o, hv.1, (hc k hk).1, (hc k hk).2, hb⟩
theorem okAll_succ (l : List Sp) (k : Nat) (h : k < l.length) : okAll (l.take (k + 1)) = (okAll (l.take k) && decide (l[k].1 ≤ l[k].2)) := by
  unfold okAll
  rw [List.take_succ_eq_append_getElem h, List.all_append]; simp
theorem okAll_not (l : List Sp) (k : Nat) (h : k < l.length) (hn : l[k].2 < l[k].1) : okAll l = false := by
  unfold okAll
  rw [List.all_eq_false]
  exact ⟨l[k], List.getElem_mem h, by simp; omega⟩
def okE (l : List Sp) : Int := if okAll l then 0 else 140
theorem checked_any (l : List Sp) (v : Value) (w : World) (hv : Spans w v l) :
    Calls Try.prog 63 #[v] w fun e w' => e = .returned (.int .i64 (okE l)) ∧ Below w.heap.size w w' := by
  obtain ⟨x, cap, rfl, _, hm⟩ := hv.shape
  unfold maxLen at hm
  have HV := Lib.hid hv
  clear hv
  have HB := Lib.hid (Below.refl w.heap.size w)
  go_enter Try.func63, Try.ntmps63
  go_wp2_with fail
  go_loopw [8] (fun i wr => ∃ k : Nat, k ≤ l.length ∧ i = .int .i64 k ∧ Below w.heap.size w wr ∧ okAll (l.take k) = true) (fun i _ => l.length - (intOf i).toNat)
  case atStart => exact ⟨0, by omega, rfl, HB.out, rfl⟩
  case round =>
    obtain ⟨k, hk, rfl, hb, hok⟩ := hrel
    replace HB := Lib.hid hb
    have HOK := Lib.hid hok
    clear hb hok
    by_cases hlt : k < l.length
    · obtain ⟨b, o, rfl, c1, c2, _⟩ := (HV.out.keep HB.out).at hlt
      by_cases hgt : l[k].2 < l[k].1
      · have HE := Lib.hid (okAll_not l k hlt hgt)
        have HC : Hid (ckE (l[k].1, l[k].2) = 140) := if_pos hgt
        go_wp2_with fail
        refine Agg.calls_at fun w1 hw1 => ?_
        have hb : Below wr.heap.size wr w1 := by rw [hw1.out]; repeat (first | exact Below.refl _ _ | refine Agg.bel_drew ?_ | refine Agg.bel_alloc ?_ _)
        replace HB := Lib.hid (HB.out.trans (hb.mono HB.out.size))
        clear hb
        refine (check_any _ _ w1).mono ?_
        rintro e w2 ⟨rfl, hb⟩
        replace HB := Lib.hid (HB.out.trans (hb.mono HB.out.size))
        clear hb
        rw [HC.out]
        go_wp2_with fail
        go_ret
        exact ⟨by rw [okE, HE.out]; rfl, HB.out⟩
      · have HE := Lib.hid (okAll_succ l k hlt)
        have HC : Hid (ckE (l[k].1, l[k].2) = 0) := if_neg hgt
        go_wp2_with fail
        refine Agg.calls_at fun w3 hw3 => ?_
        have hb : Below wr.heap.size wr w3 := by rw [hw3.out]; repeat (first | exact Below.refl _ _ | refine Agg.bel_drew ?_ | refine Agg.bel_alloc ?_ _)
        replace HB := Lib.hid (HB.out.trans (hb.mono HB.out.size))
        clear hb
        refine (check_any _ _ w3).mono ?_
        rintro e w4 ⟨rfl, hb⟩
        replace HB := Lib.hid (HB.out.trans (hb.mono HB.out.size))
        clear hb
        rw [HC.out]
        go_wp2_with fail
        go_roundw
        case rel => exact ⟨k + 1, by omega, by go_num, HB.out, by rw [HE.out, HOK.out]; simp; omega⟩
        case measure => simp [intOf]; omega
    · obtain rfl : k = l.length := by omega
      go_wp2_with fail
      go_ret
      refine ⟨?_, HB.out⟩
      have := HOK.out
      rw [List.take_length] at this
      rw [okE, this]; rfl

def hasB (s : Sp) (v : Int) : Bool := decide (s.1 ≤ v) && decide (v ≤ s.2)
theorem of_any (a b : Int) (w : World) :
    Calls Try.prog 64 #[.agg #[.int .i64 a, .int .i64 b]] w fun e w' => e = .returned (.agg #[.int .i64 a, .int .i64 b]) ∧ Below w.heap.size w w' := by
  have HB := Lib.hid (Below.refl w.heap.size w)
  go_enter Try.func64, Try.ntmps64
  go_wp2
  exact bodyPost_ret (v := .agg #[.int .i64 a, .int .i64 b]) (by simp [results, Try.results64, go_sem]) rfl ⟨rfl, bel_alloc (bel_alloc HB.out _) _⟩
theorem span_any (a b : Int) (w : World) :
    Calls Try.prog 66 #[.agg #[.int .i64 a, .int .i64 b]] w fun e w' => e = .returned (.agg #[.int .i64 a, .int .i64 b]) ∧ Below w.heap.size w w' := by
  have HB := Lib.hid (Below.refl w.heap.size w)
  go_enter Try.func66, Try.ntmps66
  go_wp2
  exact bodyPost_ret (v := .agg #[.int .i64 a, .int .i64 b]) (by simp [results, Try.results66, go_sem]) rfl ⟨rfl, bel_alloc (bel_alloc HB.out _) _⟩
def leastF (s t : Sp) : Sp := (min s.1 t.1, min s.2 t.2)
def mostF (s t : Sp) : Sp := (max s.1 t.1, max s.2 t.2)
def joinF (s t : Sp) : Sp := (min s.1 t.1, max s.2 t.2)
def meetF (s t : Sp) : Sp := (max s.1 t.1, min s.2 t.2)
theorem meetF_any (a b c d : Int) (w : World) :
    Calls Try.prog 61 #[.agg #[.int .i64 a, .int .i64 b], .agg #[.int .i64 c, .int .i64 d]] w fun e w' => e = .returned (.agg #[.int .i64 (meetF (a, b) (c, d)).1, .int .i64 (meetF (a, b) (c, d)).2]) ∧ Below w.heap.size w w' := by
  have h1 : max a c = (meetF (a, b) (c, d)).1 := rfl
  have h2 : min b d = (meetF (a, b) (c, d)).2 := rfl
  generalize meetF (a, b) (c, d) = r at *
  have H1 := Lib.hid h1
  have H2 := Lib.hid h2
  clear h1 h2
  have HB := Lib.hid (Below.refl w.heap.size w)
  go_enter Try.func61, Try.ntmps61
  go_wp2_with (first | (refine Agg.max2 (.tmp 6) (.tmp 8) _ r.1 rfl rfl rfl rfl H1.out ?_; simp only [Act.put, List.setIfInBounds_toArray, List.set_cons_succ, List.set_cons_zero]) | (refine Agg.min2 (.tmp 11) (.tmp 13) _ r.2 rfl rfl rfl rfl H2.out ?_; simp only [Act.put, List.setIfInBounds_toArray, List.set_cons_succ, List.set_cons_zero]))
  exact bodyPost_ret (v := .agg #[.int .i64 r.1, .int .i64 r.2]) (by simp [results, Try.results61, go_sem]) rfl ⟨rfl, bel_alloc (bel_alloc (bel_alloc HB.out _) _) _⟩
end Go.Proofs.Ytchpkgneloiidaa
end
section
/-
  THE WALKS OF LAYER 4 (span), second part: what all of a row come to.
-/
namespace Go.Proofs.Ytchpkgneloiidaa
open Go.ChangeShapes Go.WideShapes Go.ChangeAt Go.RowKit Agg

theorem tiE : TI Try.prog 108 105 2 16 (.agg #[.int .i64 0, .int .i64 0]) := ⟨by kernel_rfl, by kernel_rfl, rfl, by decide⟩
theorem tiS : TI Try.prog 100 26 2 16 (.agg #[.int .i64 0, .int .i64 0]) := ⟨by kernel_rfl, by kernel_rfl, rfl, by decide⟩
def foldF (F : Sp → Sp → Sp) : List Sp → Sp
  | [] => (0, 0)
  | s :: r => r.foldl F s
theorem foldF_take (F : Sp → Sp → Sp) (l : List Sp) (k : Nat) (h : k < l.length) (h0 : 0 < k) : foldF F (l.take (k + 1)) = F (foldF F (l.take k)) l[k] := by
  cases l with
  | nil => simp at h
  | cons s r =>
    obtain ⟨j, rfl⟩ : ∃ j, k = j + 1 := ⟨k - 1, by omega⟩
    have hj : j < r.length := by simpa using h
    simp only [List.take_succ_cons, foldF, List.getElem_cons_succ]
    rw [List.take_succ_eq_append_getElem hj, List.foldl_append]; rfl
theorem foldF_one (F : Sp → Sp → Sp) (l : List Sp) (h : 0 < l.length) : foldF F (l.take (0 + 1)) = l[0] := by
  cases l with
  | nil => simp at h
  | cons s r => rfl
theorem folded_meetF (l : List Sp) (v : Value) (w : World) (hv : Spans w v l) (r : Sp) (hr : foldF meetF l = r) (q : Bool) (hq : decide (0 < l.length) = q) :
    Calls Try.prog 65 #[v, .func (.func 61) #[] #[]] w fun e w' => e = .returned (.tuple #[.agg #[.int .i64 r.1, .int .i64 r.2], .bool q]) ∧ Below w.heap.size w w' := by
  obtain ⟨x, cap, rfl, _, hm⟩ := hv.shape
  unfold maxLen at hm
  have HV := Lib.hid hv
  have HR := Lib.hid hr
  have HQ := Lib.hid hq
  have hgt : ((l.length : Int) > 0) ↔ 0 < l.length := by omega
  have HGT := Lib.hid hgt
  clear hv hr hq hgt
  have HB := Lib.hid (Below.refl w.heap.size w)
  go_enter Try.func65, Try.ntmps65
  go_wp2_with fail
  go_loopw [11] (fun i wr => ∃ k : Nat, k ≤ l.length ∧ i = .int .i64 k ∧ Below w.heap.size w wr ∧ Blk wr w.heap.size 105 [.int .i64 0, .int .i64 0] ∧ Blk wr (w.heap.size + 1) 105 [.int .i64 (foldF meetF (l.take k)).1, .int .i64 (foldF meetF (l.take k)).2]) (fun i _ => l.length - (intOf i).toNat)
  case atStart =>
    refine ⟨0, by omega, rfl, bel_alloc (bel_alloc HB.out _) _, ?_, ?_⟩
    · exact (Blk.new w 105 #[.int .i64 0, .int .i64 0]).keep ((Below.refl _ _).alloc (Nat.le_refl _) _)
    · have := Blk.new (w.alloc (.cells #[.int .i64 0, .int .i64 0] 105)) 105 #[.int .i64 0, .int .i64 0]
      simpa [foldF] using this
  case round =>
    obtain ⟨k, hk, rfl, hb, hg4, hg6⟩ := hrel
    replace HB := Lib.hid hb
    have H4 := Lib.hid hg4
    have H6 := Lib.hid hg6
    clear hb hg4 hg6
    by_cases hlt : k < l.length
    · obtain ⟨b, o, rfl, c1, c2, _⟩ := (HV.out.keep HB.out).at hlt
      have d0 := H6.out.cell 0
      have d1 := H6.out.cell 1
      have f0 := H6.out.frozen 0
      have f1 := H6.out.frozen 1
      simp only [List.getElem?_cons_zero, List.getElem?_cons_succ] at d0 d1
      have hsz := H6.out.lt
      rcases Nat.eq_zero_or_pos k with hk0 | hk0
      · subst hk0
        simp only [Nat.zero_mul, Nat.add_zero] at c1 c2
        have HE := Lib.hid (foldF_one meetF l hlt)
        go_wp2_with fail
        go_roundw
        case rel =>
          refine ⟨1, by omega, rfl, bel_alloc ((HB.out.setCell (by simp) _).setCell (by simp) _) _, ((H4.out.far (by simp) _).far (by simp) _).al _, ?_⟩
          rw [HE.out]; exact (H6.out.set2 (.int .i64 l[0].1) (.int .i64 l[0].2)).al _
        case measure => simp [intOf]; omega
      · have HE := Lib.hid (foldF_take meetF l k hlt hk0)
        generalize foldF meetF (l.take k) = p at *
        have hk0' : ((k : Int) == 0) = false := by simp; omega
        go_wp2_with fail
        refine Agg.calls_at fun w1 hw1 => ?_
        have hb : Below wr.heap.size wr w1 := by rw [hw1.out]; repeat (first | exact Below.refl _ _ | refine Agg.bel_drew ?_ | refine Agg.bel_alloc ?_ _)
        replace HB := Lib.hid (HB.out.trans (hb.mono HB.out.size))
        replace H4 := Lib.hid (H4.out.keep hb)
        replace H6 := Lib.hid (H6.out.keep hb)
        clear hb
        refine (meetF_any _ _ _ _ _).mono ?_
        rintro e w2 ⟨rfl, hb⟩
        replace HB := Lib.hid (HB.out.trans (hb.mono HB.out.size))
        replace H4 := Lib.hid (H4.out.keep hb)
        replace H6 := Lib.hid (H6.out.keep hb)
        clear hb
        have d0 := H6.out.cell 0
        have d1 := H6.out.cell 1
        have f0 := H6.out.frozen 0
        have f1 := H6.out.frozen 1
        simp only [List.getElem?_cons_zero, List.getElem?_cons_succ] at d0 d1
        go_wp2_with fail
        go_roundw
        case rel =>
          refine ⟨k + 1, by omega, by go_num, (HB.out.setCell (by simp) _).setCell (by simp) _, (H4.out.far (by simp) _).far (by simp) _, ?_⟩
          rw [HE.out]; exact H6.out.set2 _ _
        case measure => simp [intOf]; omega
    · obtain rfl : k = l.length := by omega
      rw [List.take_length, HR.out] at H6
      have d0 := H6.out.cell 0
      have d1 := H6.out.cell 1
      have e0 := H4.out.cell 0
      have e1 := H4.out.cell 1
      have f0 := H4.out.frozen 0
      have f1 := H4.out.frozen 1
      simp only [List.getElem?_cons_zero, List.getElem?_cons_succ] at d0 d1 e0 e1
      have hq2 := HQ.out
      go_wp2_with fail
      exact bodyPost_ret (v := .tuple #[.agg #[.int .i64 r.1, .int .i64 r.2], .bool q]) (by simp [results, Try.results65, go_sem, e0, e1]) rfl ⟨rfl, (HB.out.setCell (Nat.le_refl _) _).setCell (Nat.le_refl _) _⟩
end Go.Proofs.Ytchpkgneloiidaa
end
