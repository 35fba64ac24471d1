/-
  THE DOCUMENT's NUMBERS (layer 1): numbers of a sign and a size.
-/
import Derived.Test.YtcedalenjcbnmaaWd5
import Derived.Test.YtcedalenjcbnmaaChain4
import Derived.Test.YtcedalenjcbnmaaRow
namespace Go.Proofs.Ytcedalenjcbnmaa
open Go.ChangeShapes Go.WideShapes Go.ChangeAt Go.RowKit Agg Wd

theorem fo_Num_0 : Agg.fieldOff Try.prog 57 0 = some 0 := by kernel_rfl
theorem fo_Num_1 : Agg.fieldOff Try.prog 57 1 = some 1 := by kernel_rfl
theorem NB.stable (n : Nat) : Stable (fun v w => NB w v n) := fun _ _ _ h hb => SlR.keep h hb
/-- a number: a sign and a size -/
def NumV (z : Int) (v : Value) (w : World) : Prop := ∃ sl, v = .agg #[.bool (decide (z < 0)), sl] ∧ NB w sl z.natAbs
theorem NumV.stable (z : Int) : Stable (NumV z) := fun _ _ _ ⟨sl, h1, h2⟩ hb => ⟨sl, h1, SlR.keep h2 hb⟩
theorem NB.far {w w' : World} {v : Value} {n g : Nat} {T : TypeId} {b : Bool} {u : Value} (h : NB w v n) (H : Blk w g T [.bool b, u]) (hu : ∀ z, u ≠ .int .i64 z) (hg : w.grownBy w' (some g)) : NB w' v n := by
  refine SlR.far h H (fun i x hx hi => ?_) hg
  unfold iD at hx
  rw [List.getElem?_map] at hx
  cases h0 : (digs n)[0]? with
  | none => rw [h0] at hx; simp at hx
  | some d =>
    rw [h0] at hx
    simp only [Option.map_some, Option.some.injEq] at hx
    subst hx
    rcases i with _ | _ | i
    · simp at hi
    · simp at hi; exact hu _ hi
    · simp at hi
set_option maxHeartbeats 2000000 in
set_option maxRecDepth 100000 in
theorem made_any (below : Bool) (n : Nat) (hn : (digs n).length ≤ 1000) (v : Value) (w : World) (hv : NB w v n) :
    Calls Try.prog 64 #[.bool below, v] w fun e w' => ∃ z, e = .returned z ∧ NumV (bif below then -(n : Int) else n) z w' ∧ Below w.heap.size w w' := by
  have HV : Hid (SlR w v 1 (digs n).length (iD (digs n))) := Lib.hid hv
  obtain ⟨x, cap, rfl, hcap, hmax⟩ := hv.shape
  have HN : Hid ((digs n).length = 0 ↔ n = 0) := Lib.hid (by rw [List.length_eq_zero_iff]; exact digs_nil)
  have HD : Hid (∀ w' sl, SlR w' sl 1 (digs n).length (iD (digs n)) → NB w' sl n) := Lib.hid (fun _ _ h => h)
  unfold maxLen at hmax
  clear hv
  generalize digs n = D at *
  have hz : Blk (w.alloc (.cells #[.bool false, .slice none 0 0] 57)) w.heap.size 57 [.bool false, .slice none 0 0] := Blk.new w 57 #[.bool false, .slice none 0 0]
  have HZ := Lib.hid hz
  clear hz
  have fin : ∀ (b : Bool), b = (below && decide (0 < D.length)) → ∀ w', Below w.heap.size w w' → Blk w' w.heap.size 57 [.bool b, .slice x D.length cap] → NumV (bif below then -(n : Int) else n) (.agg #[.bool b, .slice x D.length cap]) w' := by
    intro b hb w' hw _
    refine ⟨.slice x D.length cap, ?_, ?_⟩
    · have e : b = decide ((bif below then -(n : Int) else n) < 0) := by
        rw [hb]
        have := HN.out
        cases below
        · simp
        · by_cases h : D.length = 0
          · have := this.1 h; simp [h, this]
          · have h3 : ¬ n = 0 := fun e => h (this.2 e)
            simp; omega
      rw [e]
    · have e : (bif below then -(n : Int) else n).natAbs = n := by cases below <;> simp
      rw [e]
      exact HD.out _ _ (SlR.keep HV.out hw)
  have HF := Lib.hid fin
  clear fin
  cases below
  · have HB := Lib.hid (Below.refl w.heap.size w)
    go_enter Try.func64, Try.ntmps64
    go_wp2_with fail
    refine bodyPost_ret (results_row1 (m := 2) rfl (Blk.new w 57 #[.bool false, .slice x D.length cap]) rfl (by decide +kernel) rfl) rfl ⟨_, rfl, HF.out false rfl _ (bel_alloc (Below.refl _ _) _) (Blk.new w 57 #[.bool false, .slice x D.length cap]), bel_alloc (Below.refl _ _) _⟩
  · have HB := Lib.hid (Below.refl w.heap.size w)
    go_enter Try.func64, Try.ntmps64
    go_wp2_with fail
    refine bodyPost_ret (results_row1 (m := 2) rfl (Blk.new w 57 #[.bool (decide (0 < D.length)), .slice x D.length cap]) rfl (by decide +kernel) rfl) rfl ⟨_, rfl, HF.out (decide (0 < D.length)) (by simp) _ (bel_alloc (Below.refl _ _) _) (Blk.new w 57 #[.bool (decide (0 < D.length)), .slice x D.length cap]), bel_alloc (Below.refl _ _) _⟩
/-- the bits of a number of 64 bits -/
theorem abs_u64 (z : Int) (h1 : -9223372036854775808 ≤ z) (h2 : z ≤ 9223372036854775807) : ∃ u : Nat, IntKind.u64.wrap z = (u : Int) ∧ u < 18446744073709551616 ∧ (z < 0 → 2 ^ 64 - u = z.natAbs ∧ u ≤ 2 ^ 64) ∧ (¬ z < 0 → u = z.natAbs) := by
  refine ⟨(z % 18446744073709551616).toNat, by rw [IntKind.wrap_u64]; omega, by omega, fun h => ?_, fun h => by omega⟩
  have e : (2 : Nat) ^ 64 = 18446744073709551616 := by decide
  rw [e]; omega
set_option maxHeartbeats 2000000 in
set_option maxRecDepth 100000 in
theorem Int_any (z : Int) (h1 : -9223372036854775808 ≤ z) (h2 : z ≤ 9223372036854775807) (w : World) :
    Calls Try.prog 53 #[.int .i64 z] w fun e w' => ∃ v, e = .returned v ∧ NumV z v w' ∧ Below w.heap.size w w' := by
  obtain ⟨u, hu, hu2, hneg, hpos⟩ := abs_u64 z h1 h2
  have HU2 := Lib.hid hu2
  have HNEG := Lib.hid hneg
  have HPOS := Lib.hid hpos
  have HD64 : Hid ((digs u).length ≤ 64) := Lib.hid (digs_len (by have e : (2 : Nat) ^ 64 = 18446744073709551616 := by decide
                                                                  rw [e]; exact hu2))
  clear hu2 hneg hpos
  have HB := Lib.hid (Below.refl w.heap.size w)
  go_enter Try.func53, Try.ntmps53
  go_wp2_with fail
  refine Agg.calls_at fun w1 hw1 => ?_
  have hb : Below w.heap.size w w1 := by rw [hw1.out]; repeat (first | exact Below.refl _ _ | refine Agg.bel_drew ?_ | refine Agg.bel_alloc ?_ _)
  replace HB := Lib.hid (HB.out.trans (hb.mono HB.out.size))
  clear hb
  have H2 : Hid (Blk w1 w.heap.size 57 [.bool false, .slice none 0 0]) := by show Blk _ _ _ _; rw [hw1.out]; exact Blk.new w 57 #[.bool false, .slice none 0 0]
  clear hw1
  clear hu
  refine (size_any u HU2.out w1).mono ?_
  rintro e w2 ⟨s, rfl, hs, hb⟩
  replace HB := Lib.hid (HB.out.trans (hb.mono HB.out.size))
  replace H2 := Lib.hid (H2.out.keep hb)
  clear hb
  obtain ⟨xs, cs, rfl, _, _⟩ := SlR.shape hs
  have HS : Hid (NB w2 (.slice xs (digs u).length cs) u) := Lib.hid hs
  clear hs
  by_cases hz : z < 0
  · go_wp2_with fail
    refine (power_any 64 (by decide) w2).mono ?_
    rintro e w3 ⟨p, rfl, hp, hb⟩
    replace HB := Lib.hid (HB.out.trans (hb.mono HB.out.size))
    replace H2 := Lib.hid (H2.out.keep hb)
    replace HS := Lib.hid (HS.out.keep hb)
    clear hb
    have HP := Lib.hid hp
    obtain ⟨xp, cp, rfl, _, _⟩ := SlR.shape hp
    clear hp
    go_wp2_with fail
    obtain ⟨ha, hle⟩ := HNEG.out hz
    refine (minus_any (2 ^ 64) u hle (by rw [digs_pow]; simp) (by have := HD64.out; omega) _ _ w3 HP.out HS.out).mono ?_
    rintro e w4 ⟨m, rfl, hm, hb⟩
    replace HB := Lib.hid (HB.out.trans (hb.mono HB.out.size))
    replace H2 := Lib.hid (H2.out.keep hb)
    replace HS := Lib.hid (HS.out.keep hb)
    replace HP := Lib.hid (HP.out.keep hb)
    clear hb
    rw [ha] at hm
    obtain ⟨xm, cm, rfl, _, _⟩ := SlR.shape hm
    have HM : Hid (NB w4 (.slice xm (digs z.natAbs).length cm) z.natAbs) := Lib.hid hm
    clear hm ha hle
    go_wp2_with fail
    have hdz : (digs z.natAbs).length ≤ 1000 := by
      have := digs_len (n := z.natAbs) (k := 64) (by have e : (2 : Nat) ^ 64 = 18446744073709551616 := by decide
                                                     rw [e]; omega)
      omega
    refine (made_any true z.natAbs hdz _ w4 HM.out).mono ?_
    rintro e w5 ⟨r, rfl, hr, hb⟩
    replace HB := Lib.hid (HB.out.trans (hb.mono HB.out.size))
    replace H2 := Lib.hid (H2.out.keep hb)
    replace HM := Lib.hid (HM.out.keep hb)
    clear hb
    rw [show (bif true then -((z.natAbs : Nat) : Int) else ((z.natAbs : Nat) : Int)) = z by simp; omega] at hr
    obtain ⟨sl, rfl, hnb⟩ := hr
    obtain ⟨bl, hbl⟩ : ∃ bl, decide (z < 0) = bl := ⟨_, rfl⟩
    rw [hbl]
    have HBL := Lib.hid hbl
    clear hbl
    obtain ⟨xl, cl, rfl, _, _⟩ := SlR.shape hnb
    have HNB : Hid (NB w5 (.slice xl (digs z.natAbs).length cl) z.natAbs) := Lib.hid hnb
    have h2 := H2.out
    have hsz := HB.out.size
    clear hnb
    go_wp2_with (refine Agg.gStoreB 2 [.bool bl, .slice xl (digs z.natAbs).length cl] h2 rfl rfl rfl rfl rfl (by decide +kernel) rfl rfl (by simp [Value.oneCell']) (fun w30 hb30 hg30 => ?_))
    have hnf := NB.far HNB.out h2 (by intro q hq; cases hq) hg30
    refine bodyPost_ret (results_row1 (m := 2) rfl hb30 rfl (by decide +kernel) rfl) rfl ⟨_, rfl, ⟨_, by rw [HBL.out], hnf⟩, ?_⟩
    exact HB.out.trans (grown_below hg30 hsz (fun j hj => (by cases hj; exact Nat.le_refl _)))
  · have hdz : (digs u).length ≤ 1000 := by have := HD64.out; omega
    go_wp2_with fail
    refine (made_any false u hdz _ w2 HS.out).mono ?_
    rintro e w6 ⟨r, rfl, hr, hb⟩
    replace HB := Lib.hid (HB.out.trans (hb.mono HB.out.size))
    replace H2 := Lib.hid (H2.out.keep hb)
    replace HS := Lib.hid (HS.out.keep hb)
    clear hb
    have hza := HPOS.out (by omega)
    rw [show (bif false then -((u : Nat) : Int) else ((u : Nat) : Int)) = z by simp; omega] at hr
    clear hza
    obtain ⟨sl, rfl, hnb⟩ := hr
    obtain ⟨bl, hbl⟩ : ∃ bl, decide (z < 0) = bl := ⟨_, rfl⟩
    rw [hbl]
    have HBL := Lib.hid hbl
    clear hbl
    obtain ⟨xl, cl, rfl, _, _⟩ := SlR.shape hnb
    have HNB : Hid (NB w6 (.slice xl (digs z.natAbs).length cl) z.natAbs) := Lib.hid hnb
    have h2 := H2.out
    have hsz := HB.out.size
    clear hnb
    go_wp2_with (refine Agg.gStoreB 2 [.bool bl, .slice xl (digs z.natAbs).length cl] h2 rfl rfl rfl rfl rfl (by decide +kernel) rfl rfl (by simp [Value.oneCell']) (fun w30 hb30 hg30 => ?_))
    have hnf := NB.far HNB.out h2 (by intro q hq; cases hq) hg30
    refine bodyPost_ret (results_row1 (m := 2) rfl hb30 rfl (by decide +kernel) rfl) rfl ⟨_, rfl, ⟨_, by rw [HBL.out], hnf⟩, ?_⟩
    exact HB.out.trans (grown_below hg30 hsz (fun j hj => (by cases hj; exact Nat.le_refl _)))
end Go.Proofs.Ytcedalenjcbnmaa
