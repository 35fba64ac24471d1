/-
  THE DOCUMENT's NUMBERS (layer 1): less a number, together.
-/
import Derived.Test.YtcedalenjcbnmaaWd6
namespace Go.Proofs.Ytcedalenjcbnmaa
open Go.ChangeShapes Go.WideShapes Go.ChangeAt Go.RowKit Agg Wd

set_option maxHeartbeats 2000000 in
set_option maxRecDepth 100000 in
theorem Neg_any (z : Int) (hz : (digs z.natAbs).length ≤ 1000) (v : Value) (w : World) (hv : NumV z v w) :
    Calls Try.prog 73 #[v] w fun e w' => ∃ r, e = .returned r ∧ NumV (-z) r w' ∧ Below w.heap.size w w' := by
  obtain ⟨s, rfl, hs⟩ := hv
  obtain ⟨x, cx, rfl, _, _⟩ := SlR.shape hs
  have HS : Hid (NB w (.slice x (digs z.natAbs).length cx) z.natAbs) := Lib.hid hs
  clear hs
  have HB := Lib.hid (Below.refl w.heap.size w)
  go_enter Try.func73, Try.ntmps73
  go_wp2_with fail
  refine Agg.calls_at fun w1 hw1 => ?_
  have hb : Below w.heap.size w w1 := by rw [hw1.out]; repeat (first | exact Below.refl _ _ | refine Agg.bel_drew ?_ | refine Agg.bel_alloc ?_ _)
  replace HB := Lib.hid (HB.out.trans (hb.mono HB.out.size))
  replace HS := Lib.hid (HS.out.keep hb)
  clear hb
  have H2 : Hid (Blk w1 (w.heap.size + 1) 57 [.bool false, .slice none 0 0]) := by show Blk _ _ _ _; rw [hw1.out]; exact Blk.newAt (w.alloc _) 57 #[.bool false, .slice none 0 0] _ (by simp)
  clear hw1
  refine (made_any (!decide (z < 0)) z.natAbs hz _ w1 HS.out).mono ?_
  rintro e w2 ⟨r, rfl, hr, hb⟩
  replace HB := Lib.hid (HB.out.trans (hb.mono HB.out.size))
  replace HS := Lib.hid (HS.out.keep hb)
  replace H2 := Lib.hid (H2.out.keep hb)
  clear hb
  rw [show (bif !decide (z < 0) then -((z.natAbs : Nat) : Int) else ((z.natAbs : Nat) : Int)) = -z by by_cases h : z < 0 <;> simp [h] <;> omega] at hr
  obtain ⟨sl, rfl, hnb⟩ := hr
  rw [Int.natAbs_neg] at hnb
  obtain ⟨bl, hbl⟩ : ∃ bl, decide (-z < 0) = bl := ⟨_, rfl⟩
  rw [hbl]
  have HBL := Lib.hid hbl
  clear hbl
  obtain ⟨xl, cl, rfl, _, _⟩ := SlR.shape hnb
  have HNB := Lib.hid hnb
  have h2 := H2.out
  have hsz := HB.out.size
  clear hnb
  go_wp2_with (refine Agg.gStoreB 2 [.bool bl, .slice xl (digs z.natAbs).length cl] h2 rfl rfl rfl rfl rfl (by decide +kernel) rfl rfl (by simp [Value.oneCell']) (fun w30 hb30 hg30 => ?_))
  have hnf := NB.far HNB.out h2 (by intro q hq; cases hq) hg30
  refine bodyPost_ret (results_row1 (m := 2) rfl hb30 rfl (by decide +kernel) rfl) rfl ⟨_, rfl, ⟨_, by rw [HBL.out], by rw [Int.natAbs_neg]; exact hnf⟩, ?_⟩
  exact HB.out.trans (grown_below hg30 hsz (fun j hj => (by cases hj; omega)))
end Go.Proofs.Ytcedalenjcbnmaa
