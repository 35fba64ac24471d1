/-
  THE WALKS OF LAYER 8 (pmc): a constant that goes through bands.
-/
import Derived.Test.YtchpkgneloiidaaPmB
namespace Pm
def thrB (l : List Bd) (c : Int) : Bool := l.all fun b => decide (b.2.1 ≤ c) && decide (c ≤ b.2.2)
theorem thrB_iff (l : List Bd) (c : Int) : thrB l c = true ↔ Thr l c := by simp [thrB, Thr]
end Pm
namespace Go.Proofs.Ytchpkgneloiidaa
open Go.ChangeShapes Go.WideShapes Go.ChangeAt Go.RowKit Agg Pg Pm
attribute [local go_sem] Oper.semAt_some

set_option maxHeartbeats 4000000 in
set_option maxRecDepth 100000 in
theorem thr1_any (t lo hi c : Int) (kb : Nat) (w : World) (hk : Blk w kb 2 [.int .i64 c]) (q : Bool) (hq : (decide (lo ≤ c) && decide (c ≤ hi)) = q) :
    Calls Try.prog 40 #[.agg #[.int .i64 t, .int .i64 lo, .int .i64 hi], .pointer (some ⟨kb, 0, none⟩)] w fun e w' => e = .returned (.bool (!q)) ∧ Below w.heap.size w w' := by
  have HK := Lib.hid hk
  have HQ := Lib.hid hq
  clear hk hq
  have HB := Lib.hid (Below.refl w.heap.size w)
  go_enter Try.func40, Try.ntmps40
  go_upto_region 1 with (first
    | (refine Agg.allocRow 36 #[.int .i64 t, .int .i64 lo, .int .i64 hi] rfl rfl (by kernel_rfl) ?_; simp only [Act.put, List.setIfInBounds_toArray, List.set_cons_succ, List.set_cons_zero])
    | (refine Agg.gStoreNew 3 [.int .i64 t, .int .i64 lo, .int .i64 hi] rfl rfl rfl rfl rfl rfl (by decide +kernel) rfl rfl rfl ?_; simp only [Act.put]))
  refine Agg.wp_at fun w1 hw1 => ?_
  have hb : Below w.heap.size w w1 := by rw [hw1.out]; repeat (first | exact Below.refl _ _ | refine Agg.bel_drew ?_ | refine Agg.bel_alloc ?_ _)
  replace HB := Lib.hid (HB.out.trans (hb.mono HB.out.size))
  replace HK := Lib.hid (HK.out.keep hb)
  clear hb
  have HX : Hid (Blk w1 w.heap.size 36 [.int .i64 t, .int .i64 lo, .int .i64 hi]) := by show Blk _ _ _ _; rw [hw1.out]; exact Blk.new w 36 #[.int .i64 t, .int .i64 lo, .int .i64 hi]
  clear hw1
  have k0 := HK.out.cell 0
  have x1 := HX.out.cell 1
  have x2 := HX.out.cell 2
  simp only [List.getElem?_cons_succ, List.getElem?_cons_zero] at k0 x1 x2
  by_cases h1 : c < lo
  · obtain rfl : q = false := by rw [← HQ.out]; simp; omega
    go_wp2_with fail
    go_ret
    exact ⟨rfl, HB.out⟩
  · by_cases h2 : c > hi
    · obtain rfl : q = false := by rw [← HQ.out]; simp; omega
      go_wp2_with fail
      go_ret
      exact ⟨rfl, HB.out⟩
    · obtain rfl : q = true := by rw [← HQ.out]; simp; omega
      go_wp2_with fail
      go_ret
      exact ⟨rfl, HB.out⟩
set_option maxHeartbeats 4000000 in
set_option maxRecDepth 100000 in
theorem thrI_any (l : List Bd) (v : Value) (c : Int) (kb : Nat) (w : World) (hl : Bds w v l) (hk : Blk w kb 2 [.int .i64 c]) :
    Calls Try.prog 49 #[v, .func (.func 40) #[] #[.pointer (some ⟨kb, 0, none⟩)]] w fun e w' => (∃ i : Int, e = .returned (.int .i64 i) ∧ decide (0 ≤ i) = !thrB l c) ∧ Below w.heap.size w w' := by
  obtain ⟨x, cap, rfl, _⟩ := SlR.shape hl
  have HL0 := Lib.hid hl
  have HK0 := Lib.hid hk
  have hln := (Bds.len hl).2
  clear hl hk
  have HB := Lib.hid (Below.refl w.heap.size w)
  go_enter Try.func49, Try.ntmps49
  go_wp2_with fail
  go_loopw [8] (fun ix wr => ∃ (k : Nat), k ≤ l.length ∧ ix = .int .i64 k ∧ thrB (l.take k) c = true ∧ Below w.heap.size w wr) (fun ix _ => l.length - (intOf ix).toNat)
  case atStart => exact ⟨0, by omega, rfl, rfl, HB.out⟩
  case round =>
    obtain ⟨k, hk, rfl, hc, hb⟩ := hrel
    have HC := Lib.hid hc
    replace HB := Lib.hid hb
    have HL := Lib.hid (SlR.keep HL0.out hb)
    have HK := Lib.hid (HK0.out.keep hb)
    clear hc hb
    obtain ⟨wA, hwA⟩ : ∃ x, x = wr := ⟨_, rfl⟩
    subst hwA
    by_cases hlt : k < l.length
    · obtain ⟨b, o, cap', hve, _, _, _, _⟩ := SlR.pos HL.out (by decide) (by omega)
      simp only [Value.slice.injEq, true_and] at hve
      obtain ⟨rfl, rfl⟩ := hve
      have hrow := flat_at bdC 3 (by decide) HL.out (fun b hb => rfl) hlt
      have hst : thrB (l.take (k + 1)) c = (decide (l[k].2.1 ≤ c) && decide (c ≤ l[k].2.2)) := by
        rw [List.take_succ_eq_append_getElem hlt]
        have := HC.out
        unfold thrB at this ⊢
        rw [List.all_append, this]
        simp
      have hal : thrB l c = true → thrB (l.take (k + 1)) c = true := fun h => by
        rw [thrB_iff] at h ⊢
        exact fun b hb => h b (List.mem_of_mem_take hb)
      obtain ⟨r, hr⟩ : ∃ r, l[k]'hlt = r := ⟨_, rfl⟩
      rw [hr] at hrow hst
      clear hr
      obtain ⟨t, lo, hi⟩ := r
      simp only at hst
      obtain ⟨q, hq⟩ : ∃ q, (decide (lo ≤ c) && decide (c ≤ hi)) = q := ⟨_, rfl⟩
      rw [hq] at hst
      rw [hst] at hal
      have HST := Lib.hid hst
      have HQ := Lib.hid hq
      have HAL := Lib.hid hal
      clear hst hq hal
      go_wp2_with (refine Agg.gLoad 3 [.int .i64 t, .int .i64 lo, .int .i64 hi] rfl rfl rfl (by decide +kernel) rfl hrow ?_; simp only [Act.put, List.setIfInBounds_toArray, List.set_cons_succ, List.set_cons_zero])
      clear hrow
      refine (thr1_any t lo hi c kb wA HK.out q HQ.out).mono ?_
      rintro e w21 ⟨rfl, hb⟩
      replace HB := Lib.hid (HB.out.trans (hb.mono HB.out.size))
      clear hb
      cases q
      · go_wp2_with fail
        go_ret
        exact ⟨⟨_, rfl, by rw [show thrB l c = false by cases h : thrB l c with | false => rfl | true => exact absurd (HAL.out h) (by decide)]; exact decide_eq_true (by omega)⟩, HB.out⟩
      · go_wp2_with fail
        exact ⟨⟨k + 1, by omega, by go_num, HST.out, HB.out⟩, by first | (simp [intOf]; omega) | omega⟩
    · obtain rfl : k = l.length := by omega
      have h1 : thrB l c = true := by have := HC.out; rwa [List.take_length] at this
      have H1 := Lib.hid h1
      go_wp2_with fail
      go_ret
      exact ⟨⟨_, rfl, by rw [H1.out]; rfl⟩, HB.out⟩
set_option maxHeartbeats 4000000 in
set_option maxRecDepth 100000 in
theorem thrC_any (l : List Bd) (v : Value) (c : Int) (kb : Nat) (w : World) (hl : Bds w v l) (hk : Blk w kb 2 [.int .i64 c]) :
    Calls Try.prog 39 #[v, .func (.func 40) #[] #[.pointer (some ⟨kb, 0, none⟩)]] w fun e w' => e = .returned (.bool (!thrB l c)) ∧ Below w.heap.size w w' := by
  obtain ⟨x, cap, rfl, _⟩ := SlR.shape hl
  have HL := Lib.hid hl
  have HK := Lib.hid hk
  clear hl hk
  obtain ⟨q, hq⟩ : ∃ q, thrB l c = q := ⟨_, rfl⟩
  have HQ := Lib.hid hq
  rw [hq]
  clear hq
  have HB := Lib.hid (Below.refl w.heap.size w)
  go_enter Try.func39, Try.ntmps39
  go_wp2_with fail
  refine (thrI_any l _ c kb w HL.out HK.out).mono ?_
  rintro e w1 ⟨⟨i, rfl, hi⟩, hb⟩
  replace HB := Lib.hid (HB.out.trans (hb.mono HB.out.size))
  clear hb
  rw [HQ.out] at hi
  have HI := Lib.hid hi
  clear hi
  go_wp2_with fail
  go_ret
  refine ⟨?_, HB.out⟩
  rw [← HI.out]
  rfl
set_option maxHeartbeats 4000000 in
set_option maxRecDepth 100000 in
theorem through_any (l : List Bd) (v : Value) (c : Int) (w : World) (hl : Bds w v l) (q : Bool) (hq : thrB l c = q) :
    Calls Try.prog 25 #[v, .int .i64 c] w fun e w' => e = .returned (.bool q) ∧ Below w.heap.size w w' := by
  obtain ⟨x, cap, rfl, _⟩ := SlR.shape hl
  have HL := Lib.hid hl
  have HQ := Lib.hid hq
  have hmf : ∀ (fn : Fn) (first cap : Array Value) (w : World), (Instr.makeFunc fn first cap).run Try.prog w = .ok (.func fn first cap) w := fun _ _ _ _ => rfl
  clear hl hq
  have HB := Lib.hid (Below.refl w.heap.size w)
  go_enter Try.func25, Try.ntmps25
  go_upto_region 1 with (fail)
  refine Agg.wp_at fun w1 hw1 => ?_
  have hb : Below w.heap.size w w1 := by rw [hw1.out]; repeat (first | exact Below.refl _ _ | refine Agg.bel_drew ?_ | refine Agg.bel_alloc ?_ _)
  replace HB := Lib.hid (HB.out.trans (hb.mono HB.out.size))
  replace HL := Lib.hid (HL.out.keep hb)
  clear hb
  have HK : Hid (Blk w1 w.heap.size 2 [.int .i64 c]) := by show Blk _ _ _ _; rw [hw1.out]; exact Blk.new w 2 #[.int .i64 c]
  clear hw1
  go_wp2_with fail
  refine (thrC_any l _ c w.heap.size w1 HL.out HK.out).mono ?_
  rintro e w2 ⟨rfl, hb⟩
  replace HB := Lib.hid (HB.out.trans (hb.mono HB.out.size))
  replace HL := Lib.hid (HL.out.keep hb)
  clear hb
  rw [HQ.out]
  go_wp2_with fail
  go_ret
  cases q
  · exact ⟨rfl, HB.out⟩
  · exact ⟨rfl, HB.out⟩
end Go.Proofs.Ytchpkgneloiidaa
