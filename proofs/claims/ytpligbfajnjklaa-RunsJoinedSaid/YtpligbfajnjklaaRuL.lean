/-
  THE WALK OF LAYER 7's STATEMENT RunsChecks.
-/
import Derived.Lib.SliceRun
import Derived.Test.YtpligbfajnjklaaIter
import Derived.Test.YtpligbfajnjklaaOwn2
section
namespace Ru
theorem times_i64 {l : List Rn} (h : risesB l = true) : ∀ z ∈ times l, 0 ≤ z ∧ z ≤ 281474976710656 := fun z hz => by
  have := ((rising_iff _).1 (times_rising h)).2.2.1 z hz
  unfold maxT at this; exact this
end Ru
namespace Go.Proofs.Ytpligbfajnjklaa
open Go.ChangeShapes Go.WideShapes Go.ChangeAt Go.RowKit Agg Pg Ru

theorem tC_set (l : List Int) (k : Nat) (z : Int) : (tC l).set k (.int .i64 z) = tC (l.set k z) := by
  unfold tC; rw [List.map_set]
theorem tC_get {l : List Int} {k : Nat} (h : k < l.length) : (tC l)[k]? = some (.int .i64 l[k]) := by
  unfold tC; simp [h]
set_option maxHeartbeats 2000000 in
set_option maxRecDepth 100000 in
theorem checks_walk (l : List Rn) (v : Value) (w : World) (hl : Rus w v l) (hw : ∀ r ∈ l, Rw r) :
    Calls Try.prog 7 #[v] w fun e w' => e = .returned (.bool true) ∧ Below w.heap.size w w' := by
  obtain ⟨x, cap, rfl, _⟩ := SlR.shape hl
  have HL := Lib.hid hl
  have HW := Lib.hid (cut300_rw hw)
  clear hl hw
  have HB := Lib.hid (Below.refl w.heap.size w)
  go_enter Try.func7, Try.ntmps7
  go_wp2_with fail
  refine (wakes_any w).mono ?_
  rintro e w1 ⟨rfl, hb⟩
  replace HB := Lib.hid (HB.out.trans (hb.mono HB.out.size))
  replace HL := Lib.hid (HL.out.keep hb)
  clear hb
  go_wp2_with fail
  refine (own_any l _ w1 HL.out).mono ?_
  rintro e w2 ⟨u, rfl, hu, hb⟩
  replace HB := Lib.hid (HB.out.trans (hb.mono HB.out.size))
  replace HL := Lib.hid (HL.out.keep hb)
  clear hb
  have HU : Hid (Rus w2 u (cut300 l)) := Lib.hid (own_rus hu)
  clear hu
  have HOW := Lib.hid (fun W hW => own_any l (.slice x l.length cap) W hW)
  generalize cut300 l = L at *
  obtain ⟨ux, uc, rfl, _, _⟩ := SlR.shape HU.out
  go_wp2_with fail
  refine (rRight_any L _ w2 HU.out HW.out).mono ?_
  rintro e w3 ⟨rfl, hb⟩
  replace HB := Lib.hid (HB.out.trans (hb.mono HB.out.size))
  replace HL := Lib.hid (HL.out.keep hb)
  replace HU := Lib.hid (HU.out.keep hb)
  clear hb
  go_wp2_with fail
  obtain ⟨wU, hwU⟩ : ∃ x, x = w3 := ⟨_, rfl⟩
  subst hwU
  have HLU := HL
  have HUU := HU
  have HBU := HB
  refine (times_any L _ wU HU.out HW.out).mono ?_
  rintro e wT ⟨tv, rfl, h1, h2⟩
  have HFR : Hid (From wU wT) := Lib.hid h2
  have hb := h2
  replace HB := Lib.hid (HB.out.trans (hb.mono HB.out.size))
  replace HU := Lib.hid (HU.out.keep hb)
  clear hb
  clear h2 HL
  obtain ⟨rb, hrb⟩ : ∃ b, risesB L = b := ⟨_, rfl⟩
  have HRB := Lib.hid hrb
  rw [hrb] at h1 ⊢
  clear hrb
  have HCH := Lib.hid (fun W hW => check_any L (.slice ux L.length uc) W hW HW.out)
  have HCO := Lib.hid (fun W hW => count_any L (.slice ux L.length uc) W hW HW.out)
  rw [HRB.out] at HCH HCO
  cases rb
  · rw [if_neg Bool.false_ne_true] at h1
    subst h1
    go_wp2_with fail
    refine (HCH.out wT HU.out).mono ?_
    rintro e w31 ⟨rfl, hb⟩
    replace HB := Lib.hid (HB.out.trans (hb.mono HB.out.size))
    replace HU := Lib.hid (HU.out.keep hb)
    clear hb
    go_wp2_with fail
    refine (HCO.out w31 HU.out).mono ?_
    rintro e w32 ⟨rfl, hb⟩
    replace HB := Lib.hid (HB.out.trans (hb.mono HB.out.size))
    replace HU := Lib.hid (HU.out.keep hb)
    clear hb
    go_wp2_with fail
    go_ret
    exact ⟨rfl, HB.out⟩
  · rw [if_pos rfl] at h1
    have HT := Lib.hid h1
    have HI0 := Lib.hid (times_i64 HRB.out)
    have htd := timesD_rises HRB.out
    have hml := times_len HRB.out
    have HRT := Lib.hid (fun W hW => rTimes_any L (.slice ux L.length uc) W hW HW.out)
    rw [htd] at HRT
    obtain ⟨T, hT⟩ : ∃ T, times L = T := ⟨_, rfl⟩
    rw [hT] at HT HI0 HRT hml
    clear hT htd h1
    have HI : Hid (∀ z ∈ T, I64 z) := Lib.hid (fun z hz => by have := HI0.out z hz; unfold I64; omega)
    obtain ⟨mm, hmm⟩ : ∃ m, many L = m := ⟨_, rfl⟩
    rw [hmm] at hml HCO
    obtain ⟨hml1, hml2⟩ := hml
    subst hml1
    clear hmm
    obtain ⟨tx, tc, rfl, _, _⟩ := (ownSl HT.out).shape
    go_wp2_with fail
    refine (HRT.out wT HU.out).mono ?_
    rintro e w33 ⟨t, rfl, ht, hb⟩
    replace HB := Lib.hid (HB.out.trans (hb.mono HB.out.size))
    replace HU := Lib.hid (HU.out.keep hb)
    replace HT := Lib.hid (HT.out.keep hb)
    replace HFR := Lib.hid (HFR.out.keep hb)
    clear hb
    have HWT := Lib.hid (own_tms ht)
    clear ht
    obtain ⟨sx, sc, rfl, _, _⟩ := SlR.shape HWT.out
    go_wp2_with fail
    refine (HCH.out w33 HU.out).mono ?_
    rintro e w34 ⟨rfl, hb⟩
    replace HB := Lib.hid (HB.out.trans (hb.mono HB.out.size))
    replace HU := Lib.hid (HU.out.keep hb)
    replace HT := Lib.hid (HT.out.keep hb)
    replace HWT := Lib.hid (HWT.out.keep hb)
    replace HFR := Lib.hid (HFR.out.keep hb)
    clear hb
    go_wp2_with fail
    refine (eqT_any T T _ _ w34 (own_tms HT.out) HWT.out HI.out HI.out true (by simp)).mono ?_
    rintro e w35 ⟨rfl, hb⟩
    replace HB := Lib.hid (HB.out.trans (hb.mono HB.out.size))
    replace HU := Lib.hid (HU.out.keep hb)
    replace HT := Lib.hid (HT.out.keep hb)
    replace HWT := Lib.hid (HWT.out.keep hb)
    replace HFR := Lib.hid (HFR.out.keep hb)
    clear hb
    go_wp2_with fail
    refine (HCO.out w35 HU.out).mono ?_
    rintro e w36 ⟨rfl, hb⟩
    replace HB := Lib.hid (HB.out.trans (hb.mono HB.out.size))
    replace HU := Lib.hid (HU.out.keep hb)
    replace HT := Lib.hid (HT.out.keep hb)
    replace HWT := Lib.hid (HWT.out.keep hb)
    replace HFR := Lib.hid (HFR.out.keep hb)
    clear hb
    go_wp2_with fail
    have HFZ : Hid (Below wU.heap.size wU w36) := HFR
    clear HU HWT HCH HCO HRT HI HI0
    go_loopw [63] (fun i wr => ∃ (k : Nat) (xs : List Int), k ≤ T.length ∧ xs.length = T.length ∧ i = .int .i64 k ∧ wr.ownsRow wU.heap.size 2 1 (.slice tx T.length tc) T.length (tC xs) ∧ Below wU.heap.size wU wr) (fun i _ => T.length - (intOf i).toNat)
    case atStart => exact ⟨0, T, by omega, rfl, rfl, HT.out, HFZ.out⟩
    case round =>
      obtain ⟨k, xs, hk, hxl, rfl, h1, h2⟩ := hrel
      have HX := Lib.hid h1
      have HF := Lib.hid h2
      clear h1 h2 HT HFZ
      by_cases hlt : k < T.length
      · obtain ⟨g, c', hve⟩ := ownPos HX.out (by omega)
        simp only [Value.slice.injEq, true_and] at hve
        obtain ⟨rfl, rfl⟩ := hve
        have hcs : wr.cell? ⟨g, 0 + (k : Int).toNat * 1, none⟩ = some (.int .i64 (xs[k]'(by omega))) := by
          have h := tms_at (l := xs) (b := g) (o := 0) (n := T.length) (cap := tc) (k := k) (w := wr) (by have := ownSl HX.out; show SlR _ _ _ _ _; rw [hxl]; exact this) (by omega)
          exact h
        rw [Int.toNat_natCast, Nat.mul_one, Nat.zero_add] at hcs
        have hx2 := HX.out
        obtain ⟨z, hz⟩ : ∃ z, xs[k]'(by omega) = z := ⟨_, rfl⟩
        rw [hz] at hcs
        go_wp2_with (refine Agg.gStoreOwn k (.int .i64 (wrap64 (z + 1))) hx2 hlt rfl rfl rfl rfl rfl (by kernel_rfl) rfl rfl (fun w9 hb9 hg9 => ?_))
        rw [tC_set] at hb9
        exact ⟨⟨k + 1, xs.set k (wrap64 (z + 1)), by omega, by simpa using hxl, by go_num, hb9, HF.out.trans (grown_below hg9 HF.out.size (own_block hx2))⟩, by simp [intOf]; omega⟩
      · obtain rfl : k = T.length := by omega
        have HLW := Lib.hid (SlR.keep HLU.out HF.out)
        have HUW := Lib.hid (SlR.keep HUU.out HF.out)
        have HBW := Lib.hid (HBU.out.trans (HF.out.mono HBU.out.size))
        clear HLU HUU HBU HX HF
        go_wp2_with fail
        refine (HOW.out wr HLW.out).mono ?_
        rintro e w8 ⟨u8, rfl, h8, hb8⟩
        have HU8 : Hid (Rus w8 u8 L) := Lib.hid (own_rus h8)
        have HB8 := Lib.hid (HBW.out.trans (hb8.mono HBW.out.size))
        have HL8 := Lib.hid (SlR.keep HUW.out hb8)
        obtain ⟨ux8, uc8, rfl, _, _⟩ := SlR.shape HU8.out
        clear h8 hb8
        go_wp2_with fail
        refine (equalR_any L L _ _ w8 HL8.out HU8.out HW.out HW.out true (by simp)).mono ?_
        rintro e w9 ⟨rfl, hb9⟩
        have HB9 := Lib.hid (HB8.out.trans (hb9.mono HB8.out.size))
        clear hb9
        go_wp2_with fail
        go_ret
        exact ⟨rfl, HB9.out⟩
theorem RunsChecks_walk (v : Value) (f : Nat) (w : World) (h : Agg.Good Try.prog w f 24 [v]) :
    Calls Try.prog 7 #[v] w fun e w' => e = .returned (.bool true) ∧ Below w.heap.size w w' := by
  obtain ⟨l, h1, h2⟩ := good_runs h
  exact checks_walk l v w h1 h2
end Go.Proofs.Ytpligbfajnjklaa
end
section
/-
  THE WALKS OF LAYER 7 (runs): sorted rows, rows cloned, and compacted.
-/
namespace Agg
open Go Go.RowKit
theorem bel_setCells {B g : Nat} (hg : B ≤ g) : ∀ (vs : List Value) (o : Nat) {w w' : World}, Below B w w' → Below B w (w'.setCells g o vs)
  | [], _, _, _, h => h
  | v :: r, o, _, _, h => bel_setCells hg r (o + 1) (h.setCell hg v)
end Agg
namespace Ru
/-- a place that is below the one ahead of it -/
def Desc (l : List Int) (j : Nat) : Prop := ∃ a b, l[j]? = some a ∧ l[j + 1]? = some b ∧ b < a
def Dup (l : List Int) (j : Nat) : Prop := ∃ a, l[j]? = some a ∧ l[j + 1]? = some a
/-- what is no row of times, sorted, and has its ends where they may be, has one time twice -/
theorem dup_of {l : List Int} (h : risingB l = false) (h1 : 1 ≤ l.length) (h2 : l.length ≤ 256) (h3 : 0 ≤ l[0]'(by omega)) (h4 : l[l.length - 1]'(by omega) ≤ maxT) (hs : ∀ j, ¬ Desc l j) : ∃ j, Dup l j := by
  refine Classical.byContradiction fun hno => ?_
  have hup : ∀ j (hj : j + 1 < l.length), l[j]'(by omega) < l[j + 1]'hj := fun j hj => by
    have e1 : l[j]? = some (l[j]'(by omega)) := List.getElem?_eq_getElem _
    have e2 : l[j + 1]? = some (l[j + 1]'hj) := List.getElem?_eq_getElem _
    have a1 : ¬ l[j + 1]'hj < l[j]'(by omega) := fun h => hs j ⟨_, _, e1, e2, h⟩
    have a2 : l[j]'(by omega) ≠ l[j + 1]'hj := fun h => hno ⟨j, _, e1, by rw [e2, h]⟩
    omega
  have hpw : l.Pairwise (· < ·) := by
    rw [List.pairwise_iff_getElem]
    have key : ∀ (d i : Nat) (hi : i + d + 1 < l.length), l[i]'(by omega) < l[i + d + 1]'hi := by
      intro d
      induction d with
      | zero => intro i hi; exact hup i hi
      | succ d ih => intro i hi; have := ih i (by omega); have := hup (i + d + 1) (by omega); simp only [show i + (d + 1) + 1 = i + d + 1 + 1 by omega]; omega
    intro i j hi hj hij
    have := key (j - i - 1) i (by omega)
    simp only [show i + (j - i - 1) + 1 = j by omega] at this
    exact this
  have hb : risingB l = true := by
    refine (rising_iff l).2 ⟨h1, h2, fun x hx => ?_, hpw⟩
    obtain ⟨i, hi, rfl⟩ := List.mem_iff_getElem.1 hx
    rw [List.pairwise_iff_getElem] at hpw
    have hlo : l[0]'(by omega) ≤ l[i] := by
      by_cases e : i = 0
      · subst e; exact Int.le_refl _
      · exact Int.le_of_lt (hpw 0 i (by omega) hi (by omega))
    have hhi : l[i] ≤ l[l.length - 1]'(by omega) := by
      by_cases e : i = l.length - 1
      · subst e; exact Int.le_refl _
      · exact Int.le_of_lt (hpw i (l.length - 1) hi (by omega) (by omega))
    omega
  rw [h] at hb; cases hb
theorem rising_sorted {l : List Int} (h : risingB l = true) : ∀ j, ¬ Desc l j := fun j ⟨a, b, h1, h2, h3⟩ => by
  have hp := ((rising_iff l).1 h).2.2.2
  rw [List.pairwise_iff_getElem] at hp
  obtain ⟨q1, rfl⟩ := List.getElem?_eq_some_iff.1 h1
  obtain ⟨q2, rfl⟩ := List.getElem?_eq_some_iff.1 h2
  have := hp j (j + 1) q1 q2 (by omega)
  omega
end Ru
namespace Go.Proofs.Ytpligbfajnjklaa
open Go.ChangeShapes Go.WideShapes Go.ChangeAt Go.RowKit Agg Pg Ru

theorem isNaN_any (a : Int) (w : World) : Calls Try.prog 55 #[.int .i64 a] w fun e w' => e = .returned (.bool false) ∧ Below w.heap.size w w' := by
  have h : (a != a) = false := by simp
  have HB := Lib.hid (Below.refl w.heap.size w)
  go_enter Try.func55, Try.ntmps55
  go_wp2_with fail
  go_ret
  exact ⟨rfl, HB.out⟩
theorem less_any (a b : Int) (q : Bool) (hq : decide (a < b) = q) (w : World) : Calls Try.prog 43 #[.int .i64 a, .int .i64 b] w fun e w' => e = .returned (.bool q) ∧ Below w.heap.size w w' := by
  have HQ := Lib.hid hq
  clear hq
  have HB := Lib.hid (Below.refl w.heap.size w)
  go_enter Try.func43, Try.ntmps43
  go_wp2_with fail
  refine (isNaN_any a w).mono ?_
  rintro e w1 ⟨rfl, hb⟩
  replace HB := Lib.hid (HB.out.trans (hb.mono HB.out.size))
  clear hb
  go_wp2_with fail
  go_ret
  refine ⟨?_, HB.out⟩
  have := HQ.out
  simp_all
set_option maxHeartbeats 1000000 in
set_option maxRecDepth 100000 in
theorem sorted_any (l : List Int) (v : Value) (w : World) (hl : Tms w v l) (qs : Bool) (hqs : qs = true ↔ ∀ j, ¬ Desc l j) :
    Calls Try.prog 28 #[v] w fun e w' => e = .returned (.bool qs) ∧ Below w.heap.size w w' := by
  have HQS := Lib.hid hqs
  clear hqs
  obtain ⟨x, cap, rfl, _⟩ := SlR.shape hl
  have HL := Lib.hid hl
  have HL0 := HL
  have hln := Tms.len hl
  clear hl
  have HB := Lib.hid (Below.refl w.heap.size w)
  go_enter Try.func28, Try.ntmps28
  go_wp2_with fail
  go_loopw [3] (fun i wr => ∃ k : Int, -1 ≤ k ∧ k < l.length ∧ i = .int .i64 k ∧ Below w.heap.size w wr ∧ ∀ j : Nat, k ≤ j → ¬ Desc l j) (fun i _ => (intOf i).toNat)
  case atStart =>
    refine ⟨(l.length : Int) - 1, by omega, by omega, ?_, HB.out, fun j hj ⟨a, b, h1, h2, _⟩ => ?_⟩
    · rfl
    · have := (List.getElem?_eq_some_iff.1 h2).1; omega
  case round =>
    obtain ⟨k, hk0, hk, rfl, hb, hno⟩ := hrel
    have HNO := Lib.hid hno
    replace HB := Lib.hid hb
    replace HL := Lib.hid (SlR.keep HL0.out hb)
    clear hb hno
    obtain ⟨wA, hwA⟩ : ∃ x, x = wr := ⟨_, rfl⟩
    subst hwA
    by_cases hlt : 0 < k
    · obtain ⟨i, rfl⟩ : ∃ i : Nat, k = (i : Int) + 1 := ⟨(k - 1).toNat, by omega⟩
      have hi1 : i + 1 < l.length := by omega
      obtain ⟨b, o, cap', hve, _, _, _, _⟩ := SlR.pos HL.out (by decide) (by omega)
      simp only [Value.slice.injEq, true_and] at hve
      obtain ⟨rfl, rfl⟩ := hve
      have hc1 := tms_at HL.out hi1
      have hc0 := tms_at HL.out (k := i) (by omega)
      rw [Int.toNat_natCast, Nat.mul_one] at hc0
      have ea : l[i]? = some (l[i]'(by omega)) := List.getElem?_eq_getElem _
      have eb : l[i + 1]? = some (l[i + 1]'hi1) := List.getElem?_eq_getElem _
      obtain ⟨p, hp⟩ : ∃ p, l[i]'(by omega) = p := ⟨_, rfl⟩
      obtain ⟨q, hq⟩ : ∃ p, l[i + 1]'hi1 = p := ⟨_, rfl⟩
      rw [hp] at hc0 ea
      rw [hq] at hc1 eb
      have HC0 := Lib.hid hc0
      have HC1 : Hid (wA.cell? ⟨b, o + ((i : Int) + 1).toNat * 1, none⟩ = some (.int .i64 q)) := Lib.hid hc1
      have HEA := Lib.hid ea
      have HEB := Lib.hid eb
      have HC0' : Hid (wA.cell? ⟨b, o + ((i : Int) + 1 - 1).toNat * 1, none⟩ = some (.int .i64 p)) := Lib.hid (by rw [show ((i : Int) + 1 - 1).toNat * 1 = i by omega]; exact hc0)
      obtain ⟨z, hz⟩ : ∃ z, decide (q < p) = z := ⟨_, rfl⟩
      have HZ := Lib.hid hz
      clear hc0 hc1 ea eb hp hq hz
      go_upto_region 4 with (fail)
      refine Agg.chainR 10 (by kernel_rfl) (by kernel_rfl) ?_
      simp only [List.take_succ_cons, List.take_zero, List.drop_succ_cons, List.drop_zero]
      refine Agg.chMove rfl rfl rfl rfl ?_
      refine Agg.chMove rfl rfl rfl rfl ?_
      refine Agg.chIA ti22 (by omega) (by omega) rfl rfl rfl rfl rfl ?_
      refine Agg.chLoad rfl rfl rfl rfl (by decide +kernel) HC1.out ?_
      refine Agg.chMove rfl rfl rfl rfl ?_
      refine Agg.chMove rfl rfl rfl rfl ?_
      refine Agg.chAr64 rfl rfl rfl rfl (by omega) (by omega) rfl rfl ?_
      refine Agg.chIA ti22 (by omega) (by omega) rfl rfl rfl rfl rfl ?_
      refine Agg.chLoad rfl rfl rfl rfl (by decide +kernel) HC0'.out ?_
      refine Agg.chCall Try.func43 rfl (by kernel_rfl) rfl rfl rfl rfl (fun W hb => less_any q p z HZ.out W) ?_
      refine Agg.chEnd ?_
      intro vs w21 hb _
      refine Agg.wpNil ?_
      simp only [List.reverse, List.reverseAux, Agg.fill, List.set_cons_succ, List.set_cons_zero]
      replace HB := Lib.hid (HB.out.trans (hb.mono HB.out.size))
      replace HL := Lib.hid (HL.out.keep hb)
      clear hb
      clear HC1 HC0'
      cases z
      · have hqp : ¬ q < p := of_decide_eq_false HZ.out
        go_wp2_with fail
        refine ⟨⟨i, by omega, by omega, by go_num, HB.out, fun j hj hd => ?_⟩, by simp [intOf]⟩
        by_cases e : j = i
        · subst e
          obtain ⟨a, b, h1, h2, h3⟩ := hd
          rw [HEA.out] at h1
          rw [HEB.out] at h2
          cases h1; cases h2
          exact hqp h3
        · exact HNO.out j (by omega) hd
      · have hqp : q < p := of_decide_eq_true HZ.out
        have HX : Hid (¬ ∀ j, ¬ Desc l j) := Lib.hid (fun h => h i ⟨_, _, HEA.out, HEB.out, hqp⟩)
        clear hqp
        go_wp2_with fail
        go_ret
        obtain rfl : qs = false := by cases qs with | false => rfl | true => exact absurd (HQS.out.1 rfl) HX.out
        exact ⟨rfl, HB.out⟩
    · have HX : Hid (∀ j, ¬ Desc l j) := Lib.hid (fun j => HNO.out j (by omega))
      clear HNO
      go_wp2_with fail
      go_ret
      obtain rfl : qs = true := HQS.out.2 HX.out
      exact ⟨rfl, HB.out⟩
set_option maxRecDepth 100000 in
theorem cloneT_any (l : List Int) (v : Value) (w : World) (hv : Tms w v l) (hn : l.length ≤ 1000000) :
    Calls Try.prog 30 #[v] w fun e w' => ∃ u, e = .returned u ∧ w'.ownsRow w.heap.size 2 1 u l.length (tC l) ∧ Below w.heap.size w w' := by
  rcases hv.2 with ⟨rfl, h0⟩ | ⟨x, cap, rfl, hc1, hc2, h5⟩
  · have hl : l = [] := List.eq_nil_of_length_eq_zero h0
    subst hl
    have HV := Lib.hid hv
    clear hv h0
    have HB := Lib.hid (Below.refl w.heap.size w)
    go_enter Try.func30, Try.ntmps30
    have he : ∀ w : World, (binOp .eql 22 (.slice none 0 0) (.slice none 0 0)).run Try.prog w = .ok (.bool true) w := fun _ => rfl
    go_wp2_with fail
    go_ret
    exact ⟨_, rfl, World.ownsRow_nil _ _ _ _, HB.out⟩
  · have hc3 : cap ≤ 9223372036854775807 := by unfold maxLen at hc2; omega
    have hs := Lib.hid (SlR.keep hv ((Below.refl _ w).alloc (Nat.le_refl _) (.cells #[] 2)))
    have hown := Lib.hid (World.ownsRow_lit (e := 2) (size := 1) (base := w.heap.size) w #[] 0 (Nat.le_refl _) (by decide) rfl)
    clear hv h5 hc1 hc2
    have HB := Lib.hid (Below.refl w.heap.size w)
    go_enter Try.func30, Try.ntmps30
    have he : ∀ w : World, (binOp .eql 22 (.slice (some x) l.length cap) (.slice none 0 0)).run Try.prog w = .ok (.bool false) w := fun _ => rfl
    go_wp2_with (refine Agg.append ti22 _ _ rfl rfl w.heap.size (v := .slice (some ⟨w.heap.size, 0, none⟩) 0 0) rfl hown.out rfl hs.out (tC_one l) (by unfold maxLen; omega) (by omega) (by simp) ?_; intro v' w' ho hg hnil; simp only [Act.put, List.setIfInBounds_toArray, List.set_cons_succ, List.set_cons_zero])
    go_ret
    refine ⟨v', rfl, ?_, ?_⟩
    · simpa using ho
    · exact ((Below.refl _ w).alloc (Nat.le_refl _) _).trans ((grown_below hg (B := w.heap.size) (by simp) (by simp [Value.ownBlock])))
end Go.Proofs.Ytpligbfajnjklaa
end
