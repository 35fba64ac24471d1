/-
  THE DOCUMENT's NUMBERS (layer 1): numbers of a sign and a size.
-/
import Derived.Test.YtchpkgneloiidaaPmW5
import Derived.Test.YtchpkgneloiidaaChain4
import Derived.Test.YtchpkgneloiidaaRow
section
namespace Go.Proofs.Ytchpkgneloiidaa
open Go.ChangeShapes Go.WideShapes Go.ChangeAt Go.RowKit Agg Wd

theorem fo_Num_0 : Agg.fieldOff Try.prog 83 0 = some 0 := by kernel_rfl
theorem fo_Num_1 : Agg.fieldOff Try.prog 83 1 = some 1 := by kernel_rfl
theorem NB.stable (n : Nat) : Stable (fun v w => NB w v n) := fun _ _ _ h hb => SlR.keep h hb
/-- a number: a sign and a size -/
def NumV (z : Int) (v : Value) (w : World) : Prop := ∃ sl, v = .agg #[.bool (decide (z < 0)), sl] ∧ NB w sl z.natAbs
theorem NumV.stable (z : Int) : Stable (NumV z) := fun _ _ _ ⟨sl, h1, h2⟩ hb => ⟨sl, h1, SlR.keep h2 hb⟩
theorem NB.far {w w' : World} {v : Value} {n g : Nat} {T : TypeId} {b : Bool} {u : Value} (h : NB w v n) (H : Blk w g T [.bool b, u]) (hu : ∀ z, u ≠ .int .i64 z) (hg : w.grownBy w' (some g)) : NB w' v n := by
  refine SlR.far h H (fun i x hx hi => ?_) hg
  unfold iD at hx
  rw [List.getElem?_map] at hx
  cases h0 : (digs n)[0]? with
  | none => rw [h0] at hx; simp at hx
  | some d =>
    rw [h0] at hx
    simp only [Option.map_some, Option.some.injEq] at hx
    subst hx
    rcases i with _ | _ | i
    · simp at hi
    · simp at hi; exact hu _ hi
    · simp at hi
set_option maxHeartbeats 2000000 in
set_option maxRecDepth 100000 in
theorem made_any (below : Bool) (n : Nat) (hn : (digs n).length ≤ 1000) (v : Value) (w : World) (hv : NB w v n) :
    Calls Try.prog 52 #[.bool below, v] w fun e w' => ∃ z, e = .returned z ∧ NumV (bif below then -(n : Int) else n) z w' ∧ Below w.heap.size w w' := by
  have HV : Hid (SlR w v 1 (digs n).length (iD (digs n))) := Lib.hid hv
  obtain ⟨x, cap, rfl, hcap, hmax⟩ := hv.shape
  have HN : Hid ((digs n).length = 0 ↔ n = 0) := Lib.hid (by rw [List.length_eq_zero_iff]; exact digs_nil)
  have HD : Hid (∀ w' sl, SlR w' sl 1 (digs n).length (iD (digs n)) → NB w' sl n) := Lib.hid (fun _ _ h => h)
  unfold maxLen at hmax
  clear hv
  generalize digs n = D at *
  have hz : Blk (w.alloc (.cells #[.bool false, .slice none 0 0] 83)) w.heap.size 83 [.bool false, .slice none 0 0] := Blk.new w 83 #[.bool false, .slice none 0 0]
  have HZ := Lib.hid hz
  clear hz
  have fin : ∀ (b : Bool), b = (below && decide (0 < D.length)) → ∀ w', Below w.heap.size w w' → Blk w' w.heap.size 83 [.bool b, .slice x D.length cap] → NumV (bif below then -(n : Int) else n) (.agg #[.bool b, .slice x D.length cap]) w' := by
    intro b hb w' hw _
    refine ⟨.slice x D.length cap, ?_, ?_⟩
    · have e : b = decide ((bif below then -(n : Int) else n) < 0) := by
        rw [hb]
        have := HN.out
        cases below
        · simp
        · by_cases h : D.length = 0
          · have := this.1 h; simp [h, this]
          · have h3 : ¬ n = 0 := fun e => h (this.2 e)
            simp; omega
      rw [e]
    · have e : (bif below then -(n : Int) else n).natAbs = n := by cases below <;> simp
      rw [e]
      exact HD.out _ _ (SlR.keep HV.out hw)
  have HF := Lib.hid fin
  clear fin
  cases below
  · have HB := Lib.hid (Below.refl w.heap.size w)
    go_enter Try.func52, Try.ntmps52
    go_wp2_with fail
    refine bodyPost_ret (results_row1 (m := 2) rfl (Blk.new w 83 #[.bool false, .slice x D.length cap]) rfl (by decide +kernel) rfl) rfl ⟨_, rfl, HF.out false rfl _ (bel_alloc (Below.refl _ _) _) (Blk.new w 83 #[.bool false, .slice x D.length cap]), bel_alloc (Below.refl _ _) _⟩
  · have HB := Lib.hid (Below.refl w.heap.size w)
    go_enter Try.func52, Try.ntmps52
    go_wp2_with fail
    refine bodyPost_ret (results_row1 (m := 2) rfl (Blk.new w 83 #[.bool (decide (0 < D.length)), .slice x D.length cap]) rfl (by decide +kernel) rfl) rfl ⟨_, rfl, HF.out (decide (0 < D.length)) (by simp) _ (bel_alloc (Below.refl _ _) _) (Blk.new w 83 #[.bool (decide (0 < D.length)), .slice x D.length cap]), bel_alloc (Below.refl _ _) _⟩
/-- the bits of a number of 64 bits -/
theorem abs_u64 (z : Int) (h1 : -9223372036854775808 ≤ z) (h2 : z ≤ 9223372036854775807) : ∃ u : Nat, IntKind.u64.wrap z = (u : Int) ∧ u < 18446744073709551616 ∧ (z < 0 → 2 ^ 64 - u = z.natAbs ∧ u ≤ 2 ^ 64) ∧ (¬ z < 0 → u = z.natAbs) := by
  refine ⟨(z % 18446744073709551616).toNat, by rw [IntKind.wrap_u64]; omega, by omega, fun h => ?_, fun h => by omega⟩
  have e : (2 : Nat) ^ 64 = 18446744073709551616 := by decide
  rw [e]; omega
set_option maxHeartbeats 2000000 in
set_option maxRecDepth 100000 in
theorem Int_any (z : Int) (h1 : -9223372036854775808 ≤ z) (h2 : z ≤ 9223372036854775807) (w : World) :
    Calls Try.prog 46 #[.int .i64 z] w fun e w' => ∃ v, e = .returned v ∧ NumV z v w' ∧ Below w.heap.size w w' := by
  obtain ⟨u, hu, hu2, hneg, hpos⟩ := abs_u64 z h1 h2
  have HU2 := Lib.hid hu2
  have HNEG := Lib.hid hneg
  have HPOS := Lib.hid hpos
  have HD64 : Hid ((digs u).length ≤ 64) := Lib.hid (digs_len (by have e : (2 : Nat) ^ 64 = 18446744073709551616 := by decide
                                                                  rw [e]; exact hu2))
  clear hu2 hneg hpos
  have HB := Lib.hid (Below.refl w.heap.size w)
  go_enter Try.func46, Try.ntmps46
  go_wp2_with fail
  refine Agg.calls_at fun w1 hw1 => ?_
  have hb : Below w.heap.size w w1 := by rw [hw1.out]; repeat (first | exact Below.refl _ _ | refine Agg.bel_drew ?_ | refine Agg.bel_alloc ?_ _)
  replace HB := Lib.hid (HB.out.trans (hb.mono HB.out.size))
  clear hb
  have H2 : Hid (Blk w1 w.heap.size 83 [.bool false, .slice none 0 0]) := by show Blk _ _ _ _; rw [hw1.out]; exact Blk.new w 83 #[.bool false, .slice none 0 0]
  clear hw1
  clear hu
  refine (size_any u HU2.out w1).mono ?_
  rintro e w2 ⟨s, rfl, hs, hb⟩
  replace HB := Lib.hid (HB.out.trans (hb.mono HB.out.size))
  replace H2 := Lib.hid (H2.out.keep hb)
  clear hb
  obtain ⟨xs, cs, rfl, _, _⟩ := SlR.shape hs
  have HS : Hid (NB w2 (.slice xs (digs u).length cs) u) := Lib.hid hs
  clear hs
  by_cases hz : z < 0
  · go_wp2_with fail
    refine (power_any 64 (by decide) w2).mono ?_
    rintro e w3 ⟨p, rfl, hp, hb⟩
    replace HB := Lib.hid (HB.out.trans (hb.mono HB.out.size))
    replace H2 := Lib.hid (H2.out.keep hb)
    replace HS := Lib.hid (HS.out.keep hb)
    clear hb
    have HP := Lib.hid hp
    obtain ⟨xp, cp, rfl, _, _⟩ := SlR.shape hp
    clear hp
    go_wp2_with fail
    obtain ⟨ha, hle⟩ := HNEG.out hz
    refine (minus_any (2 ^ 64) u hle (by rw [digs_pow]; simp) (by have := HD64.out; omega) _ _ w3 HP.out HS.out).mono ?_
    rintro e w4 ⟨m, rfl, hm, hb⟩
    replace HB := Lib.hid (HB.out.trans (hb.mono HB.out.size))
    replace H2 := Lib.hid (H2.out.keep hb)
    replace HS := Lib.hid (HS.out.keep hb)
    replace HP := Lib.hid (HP.out.keep hb)
    clear hb
    rw [ha] at hm
    obtain ⟨xm, cm, rfl, _, _⟩ := SlR.shape hm
    have HM : Hid (NB w4 (.slice xm (digs z.natAbs).length cm) z.natAbs) := Lib.hid hm
    clear hm ha hle
    go_wp2_with fail
    have hdz : (digs z.natAbs).length ≤ 1000 := by
      have := digs_len (n := z.natAbs) (k := 64) (by have e : (2 : Nat) ^ 64 = 18446744073709551616 := by decide
                                                     rw [e]; omega)
      omega
    refine (made_any true z.natAbs hdz _ w4 HM.out).mono ?_
    rintro e w5 ⟨r, rfl, hr, hb⟩
    replace HB := Lib.hid (HB.out.trans (hb.mono HB.out.size))
    replace H2 := Lib.hid (H2.out.keep hb)
    replace HM := Lib.hid (HM.out.keep hb)
    clear hb
    rw [show (bif true then -((z.natAbs : Nat) : Int) else ((z.natAbs : Nat) : Int)) = z by simp; omega] at hr
    obtain ⟨sl, rfl, hnb⟩ := hr
    obtain ⟨bl, hbl⟩ : ∃ bl, decide (z < 0) = bl := ⟨_, rfl⟩
    rw [hbl]
    have HBL := Lib.hid hbl
    clear hbl
    obtain ⟨xl, cl, rfl, _, _⟩ := SlR.shape hnb
    have HNB : Hid (NB w5 (.slice xl (digs z.natAbs).length cl) z.natAbs) := Lib.hid hnb
    have h2 := H2.out
    have hsz := HB.out.size
    clear hnb
    go_wp2_with (refine Agg.gStoreB 2 [.bool bl, .slice xl (digs z.natAbs).length cl] h2 rfl rfl rfl rfl rfl (by decide +kernel) rfl rfl (by simp [Value.oneCell']) (fun w30 hb30 hg30 => ?_))
    have hnf := NB.far HNB.out h2 (by intro q hq; cases hq) hg30
    refine bodyPost_ret (results_row1 (m := 2) rfl hb30 rfl (by decide +kernel) rfl) rfl ⟨_, rfl, ⟨_, by rw [HBL.out], hnf⟩, ?_⟩
    exact HB.out.trans (grown_below hg30 hsz (fun j hj => (by cases hj; exact Nat.le_refl _)))
  · have hdz : (digs u).length ≤ 1000 := by have := HD64.out; omega
    go_wp2_with fail
    refine (made_any false u hdz _ w2 HS.out).mono ?_
    rintro e w6 ⟨r, rfl, hr, hb⟩
    replace HB := Lib.hid (HB.out.trans (hb.mono HB.out.size))
    replace H2 := Lib.hid (H2.out.keep hb)
    replace HS := Lib.hid (HS.out.keep hb)
    clear hb
    have hza := HPOS.out (by omega)
    rw [show (bif false then -((u : Nat) : Int) else ((u : Nat) : Int)) = z by simp; omega] at hr
    clear hza
    obtain ⟨sl, rfl, hnb⟩ := hr
    obtain ⟨bl, hbl⟩ : ∃ bl, decide (z < 0) = bl := ⟨_, rfl⟩
    rw [hbl]
    have HBL := Lib.hid hbl
    clear hbl
    obtain ⟨xl, cl, rfl, _, _⟩ := SlR.shape hnb
    have HNB : Hid (NB w6 (.slice xl (digs z.natAbs).length cl) z.natAbs) := Lib.hid hnb
    have h2 := H2.out
    have hsz := HB.out.size
    clear hnb
    go_wp2_with (refine Agg.gStoreB 2 [.bool bl, .slice xl (digs z.natAbs).length cl] h2 rfl rfl rfl rfl rfl (by decide +kernel) rfl rfl (by simp [Value.oneCell']) (fun w30 hb30 hg30 => ?_))
    have hnf := NB.far HNB.out h2 (by intro q hq; cases hq) hg30
    refine bodyPost_ret (results_row1 (m := 2) rfl hb30 rfl (by decide +kernel) rfl) rfl ⟨_, rfl, ⟨_, by rw [HBL.out], hnf⟩, ?_⟩
    exact HB.out.trans (grown_below hg30 hsz (fun j hj => (by cases hj; exact Nat.le_refl _)))
end Go.Proofs.Ytchpkgneloiidaa
end
section
/-
  THE DOCUMENT's NUMBERS (layer 1): less a number, together.
-/
namespace Go.Proofs.Ytchpkgneloiidaa
open Go.ChangeShapes Go.WideShapes Go.ChangeAt Go.RowKit Agg Wd

end Go.Proofs.Ytchpkgneloiidaa
end
section
/-
  THE DOCUMENT's NUMBERS (layer 1): two numbers together, one less another one.
-/
namespace Go.Proofs.Ytchpkgneloiidaa
open Go.ChangeShapes Go.WideShapes Go.ChangeAt Go.RowKit Agg Wd

theorem digs_add_len {a b k : Nat} (ha : (digs a).length ≤ k) (hb : (digs b).length ≤ k) : (digs (a + b)).length ≤ k + 1 := by
  refine digs_len ?_
  have h1 := digs_high a
  have h2 := digs_high b
  have e1 := pow_mono ha
  have e2 := pow_mono hb
  rw [Nat.pow_succ]; omega
theorem digs_le_len {a b k : Nat} (h : a ≤ b) (hb : (digs b).length ≤ k) : (digs a).length ≤ k := by
  refine digs_len ?_
  have h2 := digs_high b
  have e2 := pow_mono hb
  omega
theorem abs_add_len {a b : Int} {k : Nat} (ha : (digs a.natAbs).length ≤ k) (hb : (digs b.natAbs).length ≤ k) : (digs (a + b).natAbs).length ≤ k + 1 := digs_le_len (by omega : (a + b).natAbs ≤ a.natAbs + b.natAbs) (digs_add_len ha hb)
theorem sum_same {a b : Int} {f : Bool} (h1 : decide (a < 0) = f) (h2 : decide (b < 0) = f) : (bif f then -((a.natAbs + b.natAbs : Nat) : Int) else ((a.natAbs + b.natAbs : Nat) : Int)) = a + b := by
  cases f <;> simp at h1 h2 ⊢ <;> omega
theorem sum_less {a b : Int} {f1 f2 : Bool} (h1 : decide (a < 0) = f1) (h2 : decide (b < 0) = f2) (hne : f1 ≠ f2) (hl : a.natAbs < b.natAbs) : (bif f2 then -((b.natAbs - a.natAbs : Nat) : Int) else ((b.natAbs - a.natAbs : Nat) : Int)) = a + b := by
  cases f1 <;> cases f2 <;> simp at h1 h2 hne ⊢ <;> omega
theorem sum_more {a b : Int} {f1 f2 : Bool} (h1 : decide (a < 0) = f1) (h2 : decide (b < 0) = f2) (hne : f1 ≠ f2) (hl : ¬ a.natAbs < b.natAbs) : (bif f1 then -((a.natAbs - b.natAbs : Nat) : Int) else ((a.natAbs - b.natAbs : Nat) : Int)) = a + b := by
  cases f1 <;> cases f2 <;> simp at h1 h2 hne ⊢ <;> omega
set_option maxHeartbeats 4000000 in
set_option maxRecDepth 100000 in
theorem Add_any (a b : Int) (ha : (digs a.natAbs).length ≤ 500) (hb : (digs b.natAbs).length ≤ 500) (u v : Value) (w : World) (hu : NumV a u w) (hv : NumV b v w) :
    Calls Try.prog 45 #[u, v] w fun e w' => ∃ r, e = .returned r ∧ NumV (a + b) r w' ∧ Below w.heap.size w w' := by
  obtain ⟨s1, rfl, hs1⟩ := hu
  obtain ⟨s2, rfl, hs2⟩ := hv
  obtain ⟨x1, c1, rfl, _, _⟩ := SlR.shape hs1
  obtain ⟨x2, c2, rfl, _, _⟩ := SlR.shape hs2
  have HS1 : Hid (NB w (.slice x1 (digs a.natAbs).length c1) a.natAbs) := Lib.hid hs1
  have HS2 : Hid (NB w (.slice x2 (digs b.natAbs).length c2) b.natAbs) := Lib.hid hs2
  clear hs1 hs2
  obtain ⟨la, hla⟩ : ∃ la, la = (digs a.natAbs).length := ⟨_, rfl⟩
  obtain ⟨lb, hlb⟩ : ∃ lb, lb = (digs b.natAbs).length := ⟨_, rfl⟩
  have HLA := Lib.hid ha
  have HLB := Lib.hid hb
  rw [← hla] at HS1 ⊢
  rw [← hlb] at HS2 ⊢
  clear hla hlb ha hb
  obtain ⟨f1, hf1⟩ : ∃ f1, decide (a < 0) = f1 := ⟨_, rfl⟩
  obtain ⟨f2, hf2⟩ : ∃ f2, decide (b < 0) = f2 := ⟨_, rfl⟩
  rw [hf1, hf2]
  have HF1 := Lib.hid hf1
  have HF2 := Lib.hid hf2
  clear hf1 hf2
  have HB := Lib.hid (Below.refl w.heap.size w)
  go_enter Try.func45, Try.ntmps45
  by_cases hq : f1 = f2
  · subst hq
    go_upto_region 2 with (fail)
    refine Agg.wp_at fun w1 hw1 => ?_
    have hb : Below w.heap.size w w1 := by rw [hw1.out]; repeat (first | exact Below.refl _ _ | refine Agg.bel_drew ?_ | refine Agg.bel_alloc ?_ _)
    replace HB := Lib.hid (HB.out.trans (hb.mono HB.out.size))
    replace HS1 := Lib.hid (HS1.out.keep hb)
    replace HS2 := Lib.hid (HS2.out.keep hb)
    clear hb
    have H2 : Hid (Blk w1 w.heap.size 83 [.bool f1, .slice x1 la c1]) := by show Blk _ _ _ _; rw [hw1.out]; exact ((Blk.new w 83 #[.bool f1, .slice x1 la c1]).al _).al _
    have H3 : Hid (Blk w1 (w.heap.size + 1) 83 [.bool f1, .slice x2 lb c2]) := by show Blk _ _ _ _; rw [hw1.out]; exact (Blk.newAt (w.alloc _) 83 #[.bool f1, .slice x2 lb c2] _ (by simp)).al _
    have H4 : Hid (Blk w1 (w.heap.size + 2) 83 [.bool false, .slice none 0 0]) := by show Blk _ _ _ _; rw [hw1.out]; exact Blk.newAt ((w.alloc _).alloc _) 83 #[.bool false, .slice none 0 0] _ (by simp)
    clear hw1
    refine Agg.chainR 8 (by kernel_rfl) (by kernel_rfl) ?_
    simp only [List.take_succ_cons, List.take_zero, List.drop_succ_cons, List.drop_zero]
    refine Agg.chFA fo_Num_0 rfl rfl rfl rfl ?_
    refine Agg.chLoadB H2.out (by decide +kernel) rfl rfl (by rfl) rfl rfl ?_
    refine Agg.chFA fo_Num_1 rfl rfl rfl rfl ?_
    refine Agg.chLoadB H2.out (by decide +kernel) rfl rfl (by rfl) rfl rfl ?_
    refine Agg.chFA fo_Num_1 rfl rfl rfl rfl ?_
    refine Agg.chLoadB H3.out (by decide +kernel) rfl rfl (by rfl) rfl rfl ?_
    refine Agg.chCallG Try.func53 rfl (by kernel_rfl) (fun v w => NB w v (a.natAbs + b.natAbs)) (NB.stable _) rfl rfl rfl rfl (fun W hb => plus_any a.natAbs b.natAbs (by have := HLA.out; omega) (by have := HLB.out; omega) _ _ W (SlR.keep HS1.out hb) (SlR.keep HS2.out hb)) ?_
    refine Agg.chCall_po Try.func52 rfl (by kernel_rfl) (.op (NumV (bif f1 then -((a.natAbs + b.natAbs : Nat) : Int) else ((a.natAbs + b.natAbs : Nat) : Int)))) (NumV.stable _) 6 rfl rfl rfl rfl rfl rfl rfl (fun u W hb hg => made_any f1 _ (by have := digs_add_len HLA.out HLB.out; omega) u W hg) ?_
    refine Agg.chEnd ?_
    intro vs w2 hb hf
    simp only [List.reverse, List.reverseAux, Agg.Facts] at hf
    obtain ⟨_, ⟨sl, hv, hnb⟩, _⟩ := hf
    simp only [List.reverse, List.reverseAux, Agg.fill, List.set_cons_succ, List.set_cons_zero, hv]
    clear hv
    have hsz := HB.out.size
    have h4 := H4.out.keep hb
    replace HB := Lib.hid (HB.out.trans (hb.mono hsz))
    clear hb
    rw [sum_same HF1.out HF2.out] at hnb ⊢
    obtain ⟨bl, hbl⟩ : ∃ bl, decide (a + b < 0) = bl := ⟨_, rfl⟩
    rw [hbl]
    have HBL := Lib.hid hbl
    clear hbl
    obtain ⟨xl, cl, rfl, _, _⟩ := SlR.shape hnb
    refine Agg.tStore 2 h4 rfl rfl rfl rfl rfl (by decide +kernel) rfl rfl (by simp [Value.oneCell']) (fun w30 hb30 hg30 => ?_)
    refine Agg.wpNil ?_
    have hnf := NB.far hnb h4 (by intro q hq; cases hq) hg30
    have hsz2 := HB.out.size
    go_wp2_with fail
    refine bodyPost_ret (results_row1 (m := 2) rfl hb30 rfl (by decide +kernel) rfl) rfl ⟨_, rfl, ⟨_, by rw [HBL.out], hnf⟩, ?_⟩
    exact HB.out.trans (grown_below hg30 hsz2 (fun j hj => (by cases hj; omega)))
  · have hbf : (f1 == f2) = false := by simpa using hq
    go_upto_region 3 with (fail)
    refine Agg.wp_at fun w3 hw3 => ?_
    have hb : Below w.heap.size w w3 := by rw [hw3.out]; repeat (first | exact Below.refl _ _ | refine Agg.bel_drew ?_ | refine Agg.bel_alloc ?_ _)
    replace HB := Lib.hid (HB.out.trans (hb.mono HB.out.size))
    replace HS1 := Lib.hid (HS1.out.keep hb)
    replace HS2 := Lib.hid (HS2.out.keep hb)
    clear hb
    have H2 : Hid (Blk w3 w.heap.size 83 [.bool f1, .slice x1 la c1]) := by show Blk _ _ _ _; rw [hw3.out]; exact ((Blk.new w 83 #[.bool f1, .slice x1 la c1]).al _).al _
    have H3 : Hid (Blk w3 (w.heap.size + 1) 83 [.bool f2, .slice x2 lb c2]) := by show Blk _ _ _ _; rw [hw3.out]; exact (Blk.newAt (w.alloc _) 83 #[.bool f2, .slice x2 lb c2] _ (by simp)).al _
    have H4 : Hid (Blk w3 (w.heap.size + 2) 83 [.bool false, .slice none 0 0]) := by show Blk _ _ _ _; rw [hw3.out]; exact Blk.newAt ((w.alloc _).alloc _) 83 #[.bool false, .slice none 0 0] _ (by simp)
    clear hw3
    have xH2_0 := H2.out.cell 0
    have xH2_1 := H2.out.cell 1
    have lH2 := H2.out.lt
    simp only [List.getElem?_cons_zero, List.getElem?_cons_succ] at xH2_0 xH2_1
    have xH3_0 := H3.out.cell 0
    have xH3_1 := H3.out.cell 1
    have lH3 := H3.out.lt
    simp only [List.getElem?_cons_zero, List.getElem?_cons_succ] at xH3_0 xH3_1
    go_wp2_with fail
    by_cases hl : a.natAbs < b.natAbs
    · clear xH2_0 xH2_1 lH2 xH3_0 xH3_1 lH3
      refine (less_any a.natAbs b.natAbs (by have := HLA.out; omega) (by have := HLB.out; omega) _ _ w3 HS1.out HS2.out true (decide_eq_true hl)).mono ?_
      rintro e w4 ⟨rfl, hb⟩
      replace HB := Lib.hid (HB.out.trans (hb.mono HB.out.size))
      replace HS1 := Lib.hid (HS1.out.keep hb)
      replace HS2 := Lib.hid (HS2.out.keep hb)
      replace H2 := Lib.hid (H2.out.keep hb)
      replace H3 := Lib.hid (H3.out.keep hb)
      replace H4 := Lib.hid (H4.out.keep hb)
      clear hb
      go_upto_region 4 with (fail)
      refine Agg.chainR 8 (by kernel_rfl) (by kernel_rfl) ?_
      simp only [List.take_succ_cons, List.take_zero, List.drop_succ_cons, List.drop_zero]
      refine Agg.chFA fo_Num_0 rfl rfl rfl rfl ?_
      refine Agg.chLoadB H3.out (by decide +kernel) rfl rfl (by rfl) rfl rfl ?_
      refine Agg.chFA fo_Num_1 rfl rfl rfl rfl ?_
      refine Agg.chLoadB H3.out (by decide +kernel) rfl rfl (by rfl) rfl rfl ?_
      refine Agg.chFA fo_Num_1 rfl rfl rfl rfl ?_
      refine Agg.chLoadB H2.out (by decide +kernel) rfl rfl (by rfl) rfl rfl ?_
      refine Agg.chCallG Try.func55 rfl (by kernel_rfl) (fun v w => NB w v (b.natAbs - a.natAbs)) (NB.stable _) rfl rfl rfl rfl (fun W hb => minus_any b.natAbs a.natAbs (Nat.le_of_lt hl) (by have := HLB.out; omega) (by have := HLA.out; omega) _ _ W (SlR.keep HS2.out hb) (SlR.keep HS1.out hb)) ?_
      refine Agg.chCall_po Try.func52 rfl (by kernel_rfl) (.op (NumV (bif f2 then -((b.natAbs - a.natAbs : Nat) : Int) else ((b.natAbs - a.natAbs : Nat) : Int)))) (NumV.stable _) 6 rfl rfl rfl rfl rfl rfl rfl (fun u W hb hg => made_any f2 _ (by have := digs_le_len (Nat.sub_le b.natAbs a.natAbs) HLB.out; omega) u W hg) ?_
      refine Agg.chEnd ?_
      intro vs w5 hb hf
      simp only [List.reverse, List.reverseAux, Agg.Facts] at hf
      obtain ⟨_, ⟨sl, hv, hnb⟩, _⟩ := hf
      simp only [List.reverse, List.reverseAux, Agg.fill, List.set_cons_succ, List.set_cons_zero, hv]
      clear hv
      have hsz := HB.out.size
      have h4 := H4.out.keep hb
      replace HB := Lib.hid (HB.out.trans (hb.mono hsz))
      clear hb
      rw [sum_less HF1.out HF2.out hq hl] at hnb ⊢
      obtain ⟨bl, hbl⟩ : ∃ bl, decide (a + b < 0) = bl := ⟨_, rfl⟩
      rw [hbl]
      have HBL := Lib.hid hbl
      clear hbl
      obtain ⟨xl, cl, rfl, _, _⟩ := SlR.shape hnb
      refine Agg.tStore 2 h4 rfl rfl rfl rfl rfl (by decide +kernel) rfl rfl (by simp [Value.oneCell']) (fun w30 hb30 hg30 => ?_)
      refine Agg.wpNil ?_
      have hnf := NB.far hnb h4 (by intro q hq; cases hq) hg30
      have hsz2 := HB.out.size
      go_wp2_with fail
      refine bodyPost_ret (results_row1 (m := 2) rfl hb30 rfl (by decide +kernel) rfl) rfl ⟨_, rfl, ⟨_, by rw [HBL.out], hnf⟩, ?_⟩
      exact HB.out.trans (grown_below hg30 hsz2 (fun j hj => (by cases hj; omega)))
    · have hnl := decide_eq_false hl
      clear xH2_0 xH2_1 lH2 xH3_0 xH3_1 lH3
      refine (less_any a.natAbs b.natAbs (by have := HLA.out; omega) (by have := HLB.out; omega) _ _ w3 HS1.out HS2.out false hnl).mono ?_
      rintro e w6 ⟨rfl, hb⟩
      replace HB := Lib.hid (HB.out.trans (hb.mono HB.out.size))
      replace HS1 := Lib.hid (HS1.out.keep hb)
      replace HS2 := Lib.hid (HS2.out.keep hb)
      replace H2 := Lib.hid (H2.out.keep hb)
      replace H3 := Lib.hid (H3.out.keep hb)
      replace H4 := Lib.hid (H4.out.keep hb)
      clear hb
      go_upto_region 5 with (fail)
      refine Agg.chainR 8 (by kernel_rfl) (by kernel_rfl) ?_
      simp only [List.take_succ_cons, List.take_zero, List.drop_succ_cons, List.drop_zero]
      refine Agg.chFA fo_Num_0 rfl rfl rfl rfl ?_
      refine Agg.chLoadB H2.out (by decide +kernel) rfl rfl (by rfl) rfl rfl ?_
      refine Agg.chFA fo_Num_1 rfl rfl rfl rfl ?_
      refine Agg.chLoadB H2.out (by decide +kernel) rfl rfl (by rfl) rfl rfl ?_
      refine Agg.chFA fo_Num_1 rfl rfl rfl rfl ?_
      refine Agg.chLoadB H3.out (by decide +kernel) rfl rfl (by rfl) rfl rfl ?_
      refine Agg.chCallG Try.func55 rfl (by kernel_rfl) (fun v w => NB w v (a.natAbs - b.natAbs)) (NB.stable _) rfl rfl rfl rfl (fun W hb => minus_any a.natAbs b.natAbs (by omega) (by have := HLA.out; omega) (by have := HLB.out; omega) _ _ W (SlR.keep HS1.out hb) (SlR.keep HS2.out hb)) ?_
      refine Agg.chCall_po Try.func52 rfl (by kernel_rfl) (.op (NumV (bif f1 then -((a.natAbs - b.natAbs : Nat) : Int) else ((a.natAbs - b.natAbs : Nat) : Int)))) (NumV.stable _) 6 rfl rfl rfl rfl rfl rfl rfl (fun u W hb hg => made_any f1 _ (by have := digs_le_len (Nat.sub_le a.natAbs b.natAbs) HLA.out; omega) u W hg) ?_
      refine Agg.chEnd ?_
      intro vs w7 hb hf
      simp only [List.reverse, List.reverseAux, Agg.Facts] at hf
      obtain ⟨_, ⟨sl, hv, hnb⟩, _⟩ := hf
      simp only [List.reverse, List.reverseAux, Agg.fill, List.set_cons_succ, List.set_cons_zero, hv]
      clear hv
      have hsz := HB.out.size
      have h4 := H4.out.keep hb
      replace HB := Lib.hid (HB.out.trans (hb.mono hsz))
      clear hb
      rw [sum_more HF1.out HF2.out hq hl] at hnb ⊢
      obtain ⟨bl, hbl⟩ : ∃ bl, decide (a + b < 0) = bl := ⟨_, rfl⟩
      rw [hbl]
      have HBL := Lib.hid hbl
      clear hbl
      obtain ⟨xl, cl, rfl, _, _⟩ := SlR.shape hnb
      refine Agg.tStore 2 h4 rfl rfl rfl rfl rfl (by decide +kernel) rfl rfl (by simp [Value.oneCell']) (fun w30 hb30 hg30 => ?_)
      refine Agg.wpNil ?_
      have hnf := NB.far hnb h4 (by intro q hq; cases hq) hg30
      have hsz2 := HB.out.size
      go_wp2_with fail
      refine bodyPost_ret (results_row1 (m := 2) rfl hb30 rfl (by decide +kernel) rfl) rfl ⟨_, rfl, ⟨_, by rw [HBL.out], hnf⟩, ?_⟩
      exact HB.out.trans (grown_below hg30 hsz2 (fun j hj => (by cases hj; omega)))
end Go.Proofs.Ytchpkgneloiidaa
end
