/-
  THE WALKS OF LAYER 4 (span), sixth part: Times, total.
-/
import Derived.Test.YtcedalenjcbnmaaSpan5
namespace Go.Proofs.Ytcedalenjcbnmaa
open Go.ChangeShapes Go.WideShapes Go.ChangeAt Go.RowKit Agg

def timesR (s : Sp) (n : Int) : Sp × Int :=
  if s.2 < s.1 then ((0, 0), 140) else if fitB (s.1 * n) && fitB (s.2 * n) then ((min (s.1 * n) (s.2 * n), max (s.1 * n) (s.2 * n)), 0) else ((0, 0), 5)
set_option maxHeartbeats 1000000 in
theorem times_any (a b n : Int) (w : World) (ha : I64 a) (hb : I64 b) (hn : I64 n) (r : Sp) (er : Int) (hr : timesR (a, b) n = (r, er)) :
    Calls Try.prog 18 #[.agg #[.int .i64 a, .int .i64 b], .int .i64 n] w fun e w' => e = .returned (.tuple #[.agg #[.int .i64 r.1, .int .i64 r.2], .int .i64 er]) ∧ Below w.heap.size w w' := by
  have HA := Lib.hid ha
  have HBB := Lib.hid hb
  have HN := Lib.hid hn
  clear ha hb hn
  by_cases h : b < a
  · have HC : Hid (ckE (a, b) = 140) := if_pos h
    have HRR : Hid (r = (0, 0) ∧ er = 140) := by
      show _ ∧ _
      rw [timesR, if_pos h] at hr
      simp only [Prod.mk.injEq] at hr
      exact ⟨hr.1.symm, hr.2.symm⟩
    clear h hr
    have HB := Lib.hid (Below.refl w.heap.size w)
    go_enter Try.func18, Try.ntmps18
    go_wp2_with fail
    refine Agg.calls_at fun w1 hw1 => ?_
    have HG : Hid (Blk w1 (w.heap.size + 1) 31 [.int .i64 0, .int .i64 0]) := by
      show Blk _ _ _ _; rw [hw1.out]; exact Blk.newAt (w.alloc _) 31 #[.int .i64 0, .int .i64 0] _ (by simp)
    replace HB : Hid (Below w.heap.size w w1) := by show Below _ _ _; rw [hw1.out]; exact bel_alloc (bel_alloc HB.out _) _
    clear hw1
    refine (check_any _ _ w1).mono ?_
    rintro e w2 ⟨rfl, hb⟩
    replace HB := Lib.hid (HB.out.trans (hb.mono HB.out.size))
    replace HG := Lib.hid (HG.out.keep hb)
    clear hb
    rw [HC.out]
    have e0 := HG.out.cell 0
    have e1 := HG.out.cell 1
    have f0 := HG.out.frozen 0
    have f1 := HG.out.frozen 1
    have hlt := HG.out.lt
    simp only [List.getElem?_cons_zero, List.getElem?_cons_succ] at e0 e1
    go_wp2_with fail
    obtain ⟨rfl, rfl⟩ := HRR.out
    exact bodyPost_ret (v := .tuple #[.agg #[.int .i64 0, .int .i64 0], .int .i64 140]) (by simp [results, Try.results18, go_sem, e0, e1]) rfl ⟨rfl, (HB.out.setCell (by simp) _).setCell (by simp) _⟩
  · have HC : Hid (ckE (a, b) = 0) := if_neg h
    obtain ⟨q1, hq1⟩ : ∃ q1, fitB (a * n) = q1 := ⟨_, rfl⟩
    obtain ⟨q2, hq2⟩ : ∃ q2, fitB (b * n) = q2 := ⟨_, rfl⟩
    have HQ1 := Lib.hid hq1
    have HQ2 := Lib.hid hq2
    have HRR : Hid (if q1 && q2 then r = (min (w64 (a * n)) (w64 (b * n)), max (w64 (a * n)) (w64 (b * n))) ∧ er = 0 else r = (0, 0) ∧ er = 5) := by
      show if _ then _ else _
      rw [timesR, if_neg h] at hr
      simp only [hq1, hq2] at hr
      split at hr
      · rename_i hqq
        rw [if_pos hqq]
        simp only [Bool.and_eq_true] at hqq
        obtain ⟨rfl, rfl⟩ := hqq
        rw [w64_in (fitB_true.1 hq1), w64_in (fitB_true.1 hq2)]
        simp only [Prod.mk.injEq] at hr
        exact ⟨hr.1.symm, hr.2.symm⟩
      · rename_i hqq
        rw [if_neg hqq]
        simp only [Prod.mk.injEq] at hr
        exact ⟨hr.1.symm, hr.2.symm⟩
    clear h hr hq1 hq2
    have HB := Lib.hid (Below.refl w.heap.size w)
    go_enter Try.func18, Try.ntmps18
    go_wp2_with fail
    refine Agg.calls_at fun w1 hw1 => ?_
    have HG : Hid (Blk w1 (w.heap.size + 1) 31 [.int .i64 0, .int .i64 0]) := by
      show Blk _ _ _ _; rw [hw1.out]; exact Blk.newAt (w.alloc _) 31 #[.int .i64 0, .int .i64 0] _ (by simp)
    have HT : Hid (Blk w1 w.heap.size 31 [.int .i64 a, .int .i64 b]) := by
      show Blk _ _ _ _; rw [hw1.out]; exact (Blk.new w 31 #[.int .i64 a, .int .i64 b]).al _
    replace HB : Hid (Below w.heap.size w w1) := by show Below _ _ _; rw [hw1.out]; exact bel_alloc (bel_alloc HB.out _) _
    clear hw1
    refine (check_any _ _ w1).mono ?_
    rintro e w2 ⟨rfl, hb⟩
    replace HB := Lib.hid (HB.out.trans (hb.mono HB.out.size))
    replace HG := Lib.hid (HG.out.keep hb)
    replace HT := Lib.hid (HT.out.keep hb)
    clear hb
    rw [HC.out]
    have d0 := HT.out.cell 0
    have d1 := HT.out.cell 1
    simp only [List.getElem?_cons_zero, List.getElem?_cons_succ] at d0 d1
    go_wp2_with fail
    refine (product_any a n w2 HA.out HN.out q1 HQ1.out _ rfl).mono ?_
    rintro e w3 ⟨rfl, hb⟩
    replace HB := Lib.hid (HB.out.trans (hb.mono HB.out.size))
    replace HG := Lib.hid (HG.out.keep hb)
    replace HT := Lib.hid (HT.out.keep hb)
    clear hb
    have d0 := HT.out.cell 0
    have d1 := HT.out.cell 1
    simp only [List.getElem?_cons_zero, List.getElem?_cons_succ] at d0 d1
    go_wp2_with fail
    refine (product_any b n w3 HBB.out HN.out q2 HQ2.out _ rfl).mono ?_
    rintro e w4 ⟨rfl, hb⟩
    replace HB := Lib.hid (HB.out.trans (hb.mono HB.out.size))
    replace HG := Lib.hid (HG.out.keep hb)
    replace HT := Lib.hid (HT.out.keep hb)
    clear hb
    have e0 := HG.out.cell 0
    have e1 := HG.out.cell 1
    have f0 := HG.out.frozen 0
    have f1 := HG.out.frozen 1
    have hlt := HG.out.lt
    simp only [List.getElem?_cons_zero, List.getElem?_cons_succ] at e0 e1
    obtain ⟨x, hx⟩ : ∃ x, x = w64 (a * n) := ⟨_, rfl⟩
    obtain ⟨y, hy⟩ : ∃ y, y = w64 (b * n) := ⟨_, rfl⟩
    rw [← hx, ← hy] at HRR ⊢
    clear hx hy
    cases q1
    · have HRR' : Hid (r = (0, 0) ∧ er = 5) := HRR.out
      go_wp2_with fail
      obtain ⟨rfl, rfl⟩ := HRR'.out
      exact bodyPost_ret (v := .tuple #[.agg #[.int .i64 0, .int .i64 0], .int .i64 5]) (by simp [results, Try.results18, go_sem, e0, e1]) rfl ⟨rfl, (HB.out.setCell (by simp) _).setCell (by simp) _⟩
    · cases q2
      · have HRR' : Hid (r = (0, 0) ∧ er = 5) := HRR.out
        go_wp2_with fail
        obtain ⟨rfl, rfl⟩ := HRR'.out
        exact bodyPost_ret (v := .tuple #[.agg #[.int .i64 0, .int .i64 0], .int .i64 5]) (by simp [results, Try.results18, go_sem, e0, e1]) rfl ⟨rfl, (HB.out.setCell (by simp) _).setCell (by simp) _⟩
      · have HRR' : Hid (r = (min x y, max x y) ∧ er = 0) := HRR.out
        go_wp2_with (first | (refine Agg.min2 (.tmp 38) (.tmp 39) _ (min x y) rfl rfl rfl rfl rfl ?_; simp only [Act.put, List.setIfInBounds_toArray, List.set_cons_succ, List.set_cons_zero]) | (refine Agg.max2 (.tmp 41) (.tmp 42) _ (max x y) rfl rfl rfl rfl rfl ?_; simp only [Act.put, List.setIfInBounds_toArray, List.set_cons_succ, List.set_cons_zero]))
        obtain ⟨rfl, rfl⟩ := HRR'.out
        exact bodyPost_ret (v := .tuple #[.agg #[.int .i64 (min x y), .int .i64 (max x y)], .int .i64 0]) (by simp [results, Try.results18, go_sem, e0, e1]) rfl ⟨rfl, (HB.out.setCell (by simp) _).setCell (by simp) _⟩

theorem add64 (x y : Int) (hx : 0 ≤ x) (hy : 0 ≤ y) (w : World) :
    (callFunc 70 #[.int .u64 x, .int .u64 y, .int .u64 0]).run Try.prog w = .ok (.value (.tuple #[.int .u64 ((x + y) % 18446744073709551616), .int .u64 ((x + y) / 18446744073709551616)])) w := by
  rw [run_callFunc_extern Try.func70 (by kernel_rfl) (by kernel_rfl) (by kernel_rfl) (e := add64Entry) (by kernel_rfl), run_add64 x y 0 hx hy (by omega) (by omega)]
  simp [Result.andThen]
/-- one end of a span -/
def endF : Bool → Sp → Int
  | false, s => s.1
  | true, s => s.2
theorem end_false (a b : Int) (w : World) :
    Calls Try.prog 68 #[.agg #[.int .i64 a, .int .i64 b]] w fun e w' => e = .returned (.int .i64 (endF false (a, b))) ∧ Below w.heap.size w w' := by
  have HB := Lib.hid (Below.refl w.heap.size w)
  go_enter Try.func68, Try.ntmps68
  go_wp2
  go_ret
  exact ⟨rfl, bel_alloc HB.out _⟩
theorem end_true (a b : Int) (w : World) :
    Calls Try.prog 69 #[.agg #[.int .i64 a, .int .i64 b]] w fun e w' => e = .returned (.int .i64 (endF true (a, b))) ∧ Below w.heap.size w w' := by
  have HB := Lib.hid (Below.refl w.heap.size w)
  go_enter Try.func69, Try.ntmps69
  go_wp2
  go_ret
  exact ⟨rfl, bel_alloc HB.out _⟩
def sumE (F : Bool) (l : List Sp) : Int := (l.map (endF F)).sum
/-- a sum in two words -/
def Two (k : Nat) (S lo hi : Int) : Prop := 0 ≤ lo ∧ lo < 18446744073709551616 ∧ -(k : Int) ≤ hi ∧ hi ≤ k ∧ hi * 18446744073709551616 + lo = S
theorem sumE_succ (F : Bool) (l : List Sp) (k : Nat) (h : k < l.length) : sumE F (l.take (k + 1)) = sumE F (l.take k) + endF F l[k] := by
  unfold sumE
  rw [List.take_succ_eq_append_getElem h, List.map_append, List.sum_append]; simp
theorem two_step (k : Nat) (S lo hi n : Int) (h : Two k S lo hi) (hn : I64 n) : Two (k + 1) (S + n) ((lo + IntKind.u64.wrap n) % 18446744073709551616) (hi + (n / 9223372036854775808 + (lo + IntKind.u64.wrap n) / 18446744073709551616)) := by
  unfold Two at *
  unfold I64 at hn
  have hu : IntKind.u64.wrap n = n % 18446744073709551616 := by simp [IntKind.wrap, IntKind.bits, IntKind.signed]
  rw [hu]
  omega
theorem two_end (k : Nat) (S lo hi : Int) (h : Two k S lo hi) (hk : k ≤ 1000) : w64 lo = w64 S ∧ (hi == w64 lo / 9223372036854775808) = fitB S := by
  unfold Two at h
  refine ⟨by unfold w64; rw [IntKind.wrap_i64, IntKind.wrap_i64]; omega, ?_⟩
  have hw : w64 lo = if lo < 9223372036854775808 then lo else lo - 18446744073709551616 := by
    unfold w64; rw [IntKind.wrap_i64]; split <;> omega
  rw [Bool.eq_iff_iff, beq_iff_eq, fitB_true, hw]
  unfold I64
  split <;> omega
theorem elem_I64 {l : List Sp} (h : ∀ s ∈ l, I64 s.1 ∧ I64 s.2) (B : Bool) (k : Nat) (hk : k < l.length) : I64 (endF B l[k]) := by
  have := h _ (List.getElem_mem hk)
  cases B
  · exact this.1
  · exact this.2
set_option maxHeartbeats 1000000 in
theorem total_false (l : List Sp) (v : Value) (w : World) (hv : Spans w v l) (hn : l.length ≤ 1000) (hI : ∀ s ∈ l, I64 s.1 ∧ I64 s.2) (S : Int) (hS : sumE false l = S) (q : Bool) (hq : fitB S = q) (p : Int) (hp : w64 S = p) :
    Calls Try.prog 45 #[v, .func (.func 68) #[] #[]] w fun e w' => e = .returned (.tuple #[.int .i64 p, .bool q]) ∧ Below w.heap.size w w' := by
  obtain ⟨x, cap, rfl, _, _⟩ := hv.shape
  have HV := Lib.hid hv
  have HI := Lib.hid hI
  have HS := Lib.hid hS
  have HQ := Lib.hid hq
  have HP := Lib.hid hp
  clear hv hI hS hq hp
  have HB := Lib.hid (Below.refl w.heap.size w)
  go_enter Try.func45, Try.ntmps45
  go_wp2_with fail
  go_loopw [14, 6, 7] (fun i u6 u7 wr => ∃ k : Nat, k ≤ l.length ∧ i = .int .i64 k ∧ Below w.heap.size w wr ∧ ∃ lo hi : Int, u6 = .int .u64 lo ∧ u7 = .int .i64 hi ∧ Two k (sumE false (l.take k)) lo hi) (fun i _ _ _ => l.length - (intOf i).toNat)
  case atStart => exact ⟨0, by omega, rfl, HB.out, 0, 0, rfl, rfl, by unfold Two sumE; simp⟩
  case round =>
    obtain ⟨k, hk, rfl, hb, lo, hi, rfl, rfl, h2⟩ := hrel
    replace HB := Lib.hid hb
    have H2 := Lib.hid h2
    clear hb
    by_cases hlt : k < l.length
    · obtain ⟨b, o, rfl, c1, c2, _⟩ := (HV.out.keep HB.out).at hlt
      have HE := Lib.hid (sumE_succ false l k hlt)
      have HT := Lib.hid (two_step k _ lo hi _ h2 (elem_I64 HI.out false k hlt))
      have h20 : 0 ≤ lo := h2.1
      have h21 : -1000 ≤ hi := by unfold Two at h2; omega
      have h22 : hi ≤ 1000 := by unfold Two at h2; omega
      have hu0 : 0 ≤ IntKind.u64.wrap (endF false l[k]) := by simp [IntKind.wrap, IntKind.bits, IntKind.signed]; omega
      have hcar : 0 ≤ (lo + IntKind.u64.wrap (endF false l[k])) / 18446744073709551616 ∧ (lo + IntKind.u64.wrap (endF false l[k])) / 18446744073709551616 ≤ 1 := by
        unfold Two at h2
        have : IntKind.u64.wrap (endF false l[k]) < 18446744073709551616 := by simp [IntKind.wrap, IntKind.bits, IntKind.signed]; omega
        omega
      have hdiv : -1 ≤ endF false l[k] / 9223372036854775808 ∧ endF false l[k] / 9223372036854775808 ≤ 0 := by
        have := elem_I64 HI.out false k hlt
        unfold I64 at this
        omega
      have HA := Lib.hid (fun W => add64 lo (IntKind.u64.wrap (endF false l[k])) h20 hu0 W)
      obtain ⟨hcar0, hcar1⟩ := hcar
      obtain ⟨hdiv0, hdiv1⟩ := hdiv
      clear h2
      go_wp2_with fail
      refine Agg.calls_at fun w1 hw1 => ?_
      have hb : Below wr.heap.size wr w1 := by rw [hw1.out]; repeat (first | exact Below.refl _ _ | refine Agg.bel_drew ?_ | refine Agg.bel_alloc ?_ _)
      replace HB := Lib.hid (HB.out.trans (hb.mono HB.out.size))
      clear hb
      refine (end_false _ _ _).mono ?_
      rintro e w2 ⟨rfl, hb⟩
      replace HB := Lib.hid (HB.out.trans (hb.mono HB.out.size))
      clear hb
      rw [show endF false (l[k].1, l[k].2) = endF false l[k] from rfl]
      generalize endF false l[k] = n at *
      go_wp2_with (simp only [HA.out])
      go_roundw
      case rel => exact ⟨k + 1, by omega, by go_num, HB.out, _, _, rfl, rfl, by rw [HE.out]; exact HT.out⟩
      case measure => simp [intOf]; omega
    · obtain rfl : k = l.length := by omega
      rw [List.take_length, HS.out] at h2
      have ht := two_end _ _ _ _ h2 hn
      rw [HQ.out, HP.out] at ht
      have t1 : wrap64 lo = p := by rw [w64_eq]; exact ht.1
      have t2 : (hi == p / 9223372036854775808) = q := by rw [← ht.1]; exact ht.2
      clear h2 ht H2
      have T1 := Lib.hid t1
      go_wp2_with fail
      go_ret2
      exact ⟨by rw [← T1.out]; rfl, HB.out⟩
set_option maxHeartbeats 1000000 in
theorem total_true (l : List Sp) (v : Value) (w : World) (hv : Spans w v l) (hn : l.length ≤ 1000) (hI : ∀ s ∈ l, I64 s.1 ∧ I64 s.2) (S : Int) (hS : sumE true l = S) (q : Bool) (hq : fitB S = q) (p : Int) (hp : w64 S = p) :
    Calls Try.prog 45 #[v, .func (.func 69) #[] #[]] w fun e w' => e = .returned (.tuple #[.int .i64 p, .bool q]) ∧ Below w.heap.size w w' := by
  obtain ⟨x, cap, rfl, _, _⟩ := hv.shape
  have HV := Lib.hid hv
  have HI := Lib.hid hI
  have HS := Lib.hid hS
  have HQ := Lib.hid hq
  have HP := Lib.hid hp
  clear hv hI hS hq hp
  have HB := Lib.hid (Below.refl w.heap.size w)
  go_enter Try.func45, Try.ntmps45
  go_wp2_with fail
  go_loopw [14, 6, 7] (fun i u6 u7 wr => ∃ k : Nat, k ≤ l.length ∧ i = .int .i64 k ∧ Below w.heap.size w wr ∧ ∃ lo hi : Int, u6 = .int .u64 lo ∧ u7 = .int .i64 hi ∧ Two k (sumE true (l.take k)) lo hi) (fun i _ _ _ => l.length - (intOf i).toNat)
  case atStart => exact ⟨0, by omega, rfl, HB.out, 0, 0, rfl, rfl, by unfold Two sumE; simp⟩
  case round =>
    obtain ⟨k, hk, rfl, hb, lo, hi, rfl, rfl, h2⟩ := hrel
    replace HB := Lib.hid hb
    have H2 := Lib.hid h2
    clear hb
    by_cases hlt : k < l.length
    · obtain ⟨b, o, rfl, c1, c2, _⟩ := (HV.out.keep HB.out).at hlt
      have HE := Lib.hid (sumE_succ true l k hlt)
      have HT := Lib.hid (two_step k _ lo hi _ h2 (elem_I64 HI.out true k hlt))
      have h20 : 0 ≤ lo := h2.1
      have h21 : -1000 ≤ hi := by unfold Two at h2; omega
      have h22 : hi ≤ 1000 := by unfold Two at h2; omega
      have hu0 : 0 ≤ IntKind.u64.wrap (endF true l[k]) := by simp [IntKind.wrap, IntKind.bits, IntKind.signed]; omega
      have hcar : 0 ≤ (lo + IntKind.u64.wrap (endF true l[k])) / 18446744073709551616 ∧ (lo + IntKind.u64.wrap (endF true l[k])) / 18446744073709551616 ≤ 1 := by
        unfold Two at h2
        have : IntKind.u64.wrap (endF true l[k]) < 18446744073709551616 := by simp [IntKind.wrap, IntKind.bits, IntKind.signed]; omega
        omega
      have hdiv : -1 ≤ endF true l[k] / 9223372036854775808 ∧ endF true l[k] / 9223372036854775808 ≤ 0 := by
        have := elem_I64 HI.out true k hlt
        unfold I64 at this
        omega
      have HA := Lib.hid (fun W => add64 lo (IntKind.u64.wrap (endF true l[k])) h20 hu0 W)
      obtain ⟨hcar0, hcar1⟩ := hcar
      obtain ⟨hdiv0, hdiv1⟩ := hdiv
      clear h2
      go_wp2_with fail
      refine Agg.calls_at fun w1 hw1 => ?_
      have hb : Below wr.heap.size wr w1 := by rw [hw1.out]; repeat (first | exact Below.refl _ _ | refine Agg.bel_drew ?_ | refine Agg.bel_alloc ?_ _)
      replace HB := Lib.hid (HB.out.trans (hb.mono HB.out.size))
      clear hb
      refine (end_true _ _ _).mono ?_
      rintro e w2 ⟨rfl, hb⟩
      replace HB := Lib.hid (HB.out.trans (hb.mono HB.out.size))
      clear hb
      rw [show endF true (l[k].1, l[k].2) = endF true l[k] from rfl]
      generalize endF true l[k] = n at *
      go_wp2_with (simp only [HA.out])
      go_roundw
      case rel => exact ⟨k + 1, by omega, by go_num, HB.out, _, _, rfl, rfl, by rw [HE.out]; exact HT.out⟩
      case measure => simp [intOf]; omega
    · obtain rfl : k = l.length := by omega
      rw [List.take_length, HS.out] at h2
      have ht := two_end _ _ _ _ h2 hn
      rw [HQ.out, HP.out] at ht
      have t1 : wrap64 lo = p := by rw [w64_eq]; exact ht.1
      have t2 : (hi == p / 9223372036854775808) = q := by rw [← ht.1]; exact ht.2
      clear h2 ht H2
      have T1 := Lib.hid t1
      go_wp2_with fail
      go_ret2
      exact ⟨by rw [← T1.out]; rfl, HB.out⟩
end Go.Proofs.Ytcedalenjcbnmaa
