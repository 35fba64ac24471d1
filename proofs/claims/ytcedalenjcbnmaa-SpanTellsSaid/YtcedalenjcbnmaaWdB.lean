/-
  THE DOCUMENT's SPANS (layer 4): Of.
-/
import Derived.Test.YtcedalenjcbnmaaWdA
namespace Go.Proofs.Ytcedalenjcbnmaa
open Go.ChangeShapes Go.WideShapes Go.ChangeAt Go.RowKit Agg Wd

/-- the span between two numbers, if they are numbers of 64 bits -/
def ofR (lo hi : Int) : (Int × Int) × Bool := if (fits64 lo && fits64 hi) = true then ((lo, hi), true) else ((0, 0), false)
set_option maxHeartbeats 4000000 in
set_option maxRecDepth 100000 in
theorem Of_any (lo hi : Int) (hlo : (digs lo.natAbs).length ≤ 500) (hhi : (digs hi.natAbs).length ≤ 500) (u v : Value) (w : World) (hu : NumV lo u w) (hv : NumV hi v w) :
    Calls Try.prog 54 #[u, v] w fun e w' => e = .returned (.tuple #[.agg #[.int .i64 (ofR lo hi).1.1, .int .i64 (ofR lo hi).1.2], .bool (ofR lo hi).2]) ∧ Below w.heap.size w w' := by
  have HU : Hid (NumV lo u w) := Lib.hid hu
  have HV : Hid (NumV hi v w) := Lib.hid hv
  have HV1 := Lib.hid (fun u W (h : NumV lo u W) => Value_any lo hlo u W h)
  have HV2 := Lib.hid (fun u W (h : NumV hi u W) => Value_any hi hhi u W h)
  obtain ⟨r, hr⟩ : ∃ r, r = ofR lo hi := ⟨_, rfl⟩
  rw [← hr]
  unfold ofR at hr
  obtain ⟨q1, hq1⟩ : ∃ q, fits64 lo = q := ⟨_, rfl⟩
  obtain ⟨q2, hq2⟩ : ∃ q, fits64 hi = q := ⟨_, rfl⟩
  rw [hq1] at HV1 hr
  rw [hq2] at HV2 hr
  obtain ⟨s1, e1, hs1⟩ := hu
  obtain ⟨s2, e2, hs2⟩ := hv
  obtain ⟨x1, c1, rfl, _, _⟩ := SlR.shape hs1
  obtain ⟨x2, c2, rfl, _, _⟩ := SlR.shape hs2
  generalize decide (lo < 0) = f1 at *
  generalize decide (hi < 0) = f2 at *
  generalize (digs lo.natAbs).length = la at *
  generalize (digs hi.natAbs).length = lb at *
  subst e1
  subst e2
  have HRR := Lib.hid hr
  clear hr hs1 hs2 hq1 hq2 hlo hhi
  have KU : Hid ((fun W => NumV lo (.agg #[.bool f1, .slice x1 la c1]) W) w) := Lib.hid HU.out
  have KV : Hid ((fun W => NumV hi (.agg #[.bool f2, .slice x2 lb c2]) W) w) := Lib.hid HV.out
  clear KU KV
  have HB := Lib.hid (Below.refl w.heap.size w)
  go_enter Try.func54, Try.ntmps54
  go_wp2_with fail
  refine Agg.calls_at fun w1 hw1 => ?_
  have hb : Below w.heap.size w w1 := by rw [hw1.out]; repeat (first | exact Below.refl _ _ | refine Agg.bel_drew ?_ | refine Agg.bel_alloc ?_ _)
  replace HB := Lib.hid (HB.out.trans (hb.mono HB.out.size))
  clear hb
  have hbw : Below w.heap.size w w1 := HB.out
  replace HU := Lib.hid (NumV.stable lo _ _ _ HU.out hbw)
  replace HV := Lib.hid (NumV.stable hi _ _ _ HV.out hbw)
  have H2 : Hid (Blk w1 w.heap.size 57 [.bool f1, .slice x1 la c1]) := by show Blk _ _ _ _; rw [hw1.out]; exact ((Blk.new w 57 #[.bool f1, .slice x1 la c1]).al _).al _
  have H3 : Hid (Blk w1 (w.heap.size + 1) 57 [.bool f2, .slice x2 lb c2]) := by show Blk _ _ _ _; rw [hw1.out]; exact (Blk.newAt (w.alloc _) 57 #[.bool f2, .slice x2 lb c2] _ (by simp)).al _
  have H4 : Hid (Blk w1 (w.heap.size + 2) 31 [.int .i64 0, .int .i64 0]) := by show Blk _ _ _ _; rw [hw1.out]; exact Blk.newAt ((w.alloc _).alloc _) 31 #[.int .i64 0, .int .i64 0] _ (by simp)
  clear hw1 hbw
  refine (HV1.out _ w1 HU.out).mono ?_
  rintro e w20 ⟨rfl, hb⟩
  replace HV := Lib.hid (NumV.stable hi _ _ _ HV.out hb)
  have hb := hb
  replace HB := Lib.hid (HB.out.trans (hb.mono HB.out.size))
  replace H2 := Lib.hid (H2.out.keep hb)
  replace H3 := Lib.hid (H3.out.keep hb)
  replace H4 := Lib.hid (H4.out.keep hb)
  clear hb
  have xH3_0 := H3.out.cell 0
  have xH3_1 := H3.out.cell 1
  have lH3 := H3.out.lt
  simp only [List.getElem?_cons_zero, List.getElem?_cons_succ] at xH3_0 xH3_1
  clear HU HV1
  cases q1
  · rw [show (if false = true then lo else (0 : Int)) = 0 from rfl]
    go_wp2_with fail
    refine (HV2.out _ w20 HV.out).mono ?_
    rintro e w21 ⟨rfl, hb⟩
    have hb := hb
    replace HB := Lib.hid (HB.out.trans (hb.mono HB.out.size))
    replace H2 := Lib.hid (H2.out.keep hb)
    replace H3 := Lib.hid (H3.out.keep hb)
    replace H4 := Lib.hid (H4.out.keep hb)
    clear hb
    generalize (if q2 = true then hi else (0 : Int)) = y at *
    have hr : r = ((0, 0), false) := by have := HRR.out; simpa using this
    subst hr
    have h4 := H4.out
    have hsz := HB.out.size
    clear HV HV2
    go_wp2_with (first
      | (refine Agg.gBuild0 (.agg #[.int .i64 0, .int .i64 0]) rfl rfl (fun _ => by kernel_rfl) ?_; simp only [Act.put, List.setIfInBounds_toArray, List.set_cons_succ, List.set_cons_zero])
      | (refine Agg.gStoreB 2 [.int .i64 0, .int .i64 0] h4 rfl rfl rfl rfl rfl (by decide +kernel) rfl rfl (by simp [Value.oneCell']) (fun w3 hb3 hg3 => ?_)))
    refine bodyPost_ret (results_row2 (m := 2) rfl hb3 rfl (by decide +kernel) rfl) rfl ⟨rfl, ?_⟩
    exact HB.out.trans (grown_below hg3 hsz (fun j hj => (by cases hj; omega)))
  · rw [show (if true = true then lo else (0 : Int)) = lo from rfl]
    go_wp2_with fail
    refine (HV2.out _ w20 HV.out).mono ?_
    rintro e w21 ⟨rfl, hb⟩
    have hb := hb
    replace HB := Lib.hid (HB.out.trans (hb.mono HB.out.size))
    replace H2 := Lib.hid (H2.out.keep hb)
    replace H3 := Lib.hid (H3.out.keep hb)
    replace H4 := Lib.hid (H4.out.keep hb)
    clear hb
    clear HV HV2
    cases q2
    · rw [show (if false = true then hi else (0 : Int)) = 0 from rfl]
      have hr : r = ((0, 0), false) := by have := HRR.out; simpa using this
      subst hr
      have h4 := H4.out
      have hsz := HB.out.size
      go_wp2_with (first
        | (refine Agg.gBuild0 (.agg #[.int .i64 0, .int .i64 0]) rfl rfl (fun _ => by kernel_rfl) ?_; simp only [Act.put, List.setIfInBounds_toArray, List.set_cons_succ, List.set_cons_zero])
        | (refine Agg.gStoreB 2 [.int .i64 0, .int .i64 0] h4 rfl rfl rfl rfl rfl (by decide +kernel) rfl rfl (by simp [Value.oneCell']) (fun w3 hb3 hg3 => ?_)))
      refine bodyPost_ret (results_row2 (m := 2) rfl hb3 rfl (by decide +kernel) rfl) rfl ⟨rfl, ?_⟩
      exact HB.out.trans (grown_below hg3 hsz (fun j hj => (by cases hj; omega)))
    · rw [show (if true = true then hi else (0 : Int)) = hi from rfl]
      have hr : r = ((lo, hi), true) := by have := HRR.out; simpa using this
      subst hr
      have h4 := H4.out
      have hsz := HB.out.size
      go_wp2_with (refine Agg.gStoreB 2 [.int .i64 lo, .int .i64 hi] h4 rfl rfl rfl rfl rfl (by decide +kernel) rfl rfl (by simp [Value.oneCell']) (fun w3 hb3 hg3 => ?_))
      refine bodyPost_ret (results_row2 (m := 2) rfl hb3 rfl (by decide +kernel) rfl) rfl ⟨rfl, ?_⟩
      exact HB.out.trans (grown_below hg3 hsz (fun j hj => (by cases hj; omega)))
end Go.Proofs.Ytcedalenjcbnmaa
