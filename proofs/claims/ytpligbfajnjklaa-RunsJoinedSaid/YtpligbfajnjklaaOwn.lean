/-
  THE WALKS OF LAYER 7 (runs): many, Count, Check, At, below, Find, Clip.
-/
import Derived.Test.YtpligbfajnjklaaRu4
import Derived.Test.YtpligbfajnjklaaRuQ
import Derived.Test.YtpligbfajnjklaaRu3
section
namespace Go.Proofs.Ytpligbfajnjklaa
open Go.ChangeShapes Go.WideShapes Go.ChangeAt Go.RowKit Agg Pg Ru

theorem Rus.len {w : World} {x : Option Addr} {n cap : Nat} {l : List Rn} (h : Rus w (.slice x n cap) l) : n = l.length ∧ (l.length : Int) ≤ 9223372036854775807 := by
  obtain ⟨_, _, e, h1, h2⟩ := SlR.shape h
  simp only [Value.slice.injEq] at e
  unfold maxLen at h2
  omega
theorem rises_R {l : List Rn} {v : Value} {w : World} (hl : Rus w v l) (hw : ∀ r ∈ l, Rw r) :
    Calls Try.prog 37 #[v] w fun e w' => e = .returned (.bool (risesB l)) ∧ Below w.heap.size w w' := by
  obtain ⟨x, cap, rfl, _⟩ := SlR.shape hl
  exact rises_any l x cap w hl hw
set_option maxHeartbeats 1000000 in
theorem many_any (l : List Rn) (v : Value) (w : World) (hl : Rus w v l) (hr : risesB l = true) :
    Calls Try.prog 39 #[v] w fun e w' => e = .returned (.int .i64 (many l)) ∧ Below w.heap.size w w' := by
  obtain ⟨x, cap, rfl, _⟩ := SlR.shape hl
  have HL := Lib.hid hl
  have hln := (Rus.len hl).2
  have HR := Lib.hid hr
  clear hl hr
  have HB := Lib.hid (Below.refl w.heap.size w)
  go_enter Try.func39, Try.ntmps39
  go_wp2_with fail
  go_loopw [3, 8] (fun m i wr => ∃ k : Nat, k ≤ l.length ∧ i = .int .i64 k ∧ m = .int .i64 (many (l.take k)) ∧ Below w.heap.size w wr ∧ Rus wr (.slice x l.length cap) l) (fun _ i _ => l.length - (intOf i).toNat)
  case atStart => exact ⟨0, by omega, rfl, rfl, HB.out, HL.out⟩
  case round =>
    obtain ⟨k, hk, rfl, rfl, hb, h1⟩ := hrel
    replace HB := Lib.hid hb
    replace HL := Lib.hid h1
    clear hb h1
    obtain ⟨wA, hwA⟩ : ∃ x, x = wr := ⟨_, rfl⟩
    subst hwA
    by_cases hlt : k < l.length
    · have HSN := Lib.hid (many_snoc l k hlt)
      have hat := at_rises HR.out hlt
      have hbig := hat.big
      have hpos := hat.pos
      have hsz := (sized_iff _).1 hat.siz
      obtain ⟨b, o, cap', hve, _, _, _, _⟩ := SlR.pos HL.out (by decide) (by omega)
      simp only [Value.slice.injEq, true_and] at hve
      obtain ⟨rfl, rfl⟩ := hve
      have hrow := flat_at ruC 3 (by decide) HL.out (fun b hb => rfl) hlt
      obtain ⟨r, hr⟩ : ∃ r, l[k] = r := ⟨_, rfl⟩
      rw [hr] at HSN hrow hbig hsz
      clear hr hat
      obtain ⟨a, s, c⟩ := r
      simp only at hbig hsz
      generalize many (l.take k) = mk at *
      have hsum : many (l.take (k + 1)) = mk + c := HSN.out
      have HSUM := Lib.hid hsum
      clear hsum
      go_wp2_with (refine Agg.gLoad 3 [.int .i64 a, .int .i64 s, .int .i64 c] rfl rfl rfl (by decide +kernel) rfl hrow ?_; simp only [Act.put, List.setIfInBounds_toArray, List.set_cons_succ, List.set_cons_zero])
      exact ⟨⟨k + 1, by omega, by go_num, by rw [HSUM.out], Agg.bel_alloc HB.out _, HL.out.keep (Agg.bel_alloc (Below.refl _ _) _)⟩, by simp [intOf]; omega⟩
    · obtain rfl : k = l.length := by omega
      rw [List.take_length]
      go_wp2_with fail
      go_ret
      exact ⟨rfl, HB.out⟩
theorem check_any (l : List Rn) (v : Value) (w : World) (hl : Rus w v l) (hw : ∀ r ∈ l, Rw r) :
    Calls Try.prog 26 #[v] w fun e w' => e = .returned (.int .i64 (if risesB l then 0 else 170)) ∧ Below w.heap.size w w' := by
  obtain ⟨x, cap, rfl, _⟩ := SlR.shape hl
  have HL := Lib.hid hl
  have HW := Lib.hid hw
  obtain ⟨rb, hrb⟩ : ∃ b, risesB l = b := ⟨_, rfl⟩
  have HRB := Lib.hid hrb
  rw [hrb]
  clear hl hw hrb
  have HB := Lib.hid (Below.refl w.heap.size w)
  go_enter Try.func26, Try.ntmps26
  go_wp2_with fail
  refine (rises_R HL.out HW.out).mono ?_
  rintro e w1 ⟨rfl, hb⟩
  replace HB := Lib.hid (HB.out.trans (hb.mono HB.out.size))
  clear hb
  rw [HRB.out]
  cases rb
  · go_wp2_with fail
    go_ret
    exact ⟨rfl, HB.out⟩
  · go_wp2_with fail
    go_ret
    exact ⟨rfl, HB.out⟩
theorem count_any (l : List Rn) (v : Value) (w : World) (hl : Rus w v l) (hw : ∀ r ∈ l, Rw r) :
    Calls Try.prog 27 #[v] w fun e w' => e = .returned (.int .i64 (if risesB l then many l else 0)) ∧ Below w.heap.size w w' := by
  obtain ⟨x, cap, rfl, _⟩ := SlR.shape hl
  have HL := Lib.hid hl
  have HW := Lib.hid hw
  obtain ⟨rb, hrb⟩ : ∃ b, risesB l = b := ⟨_, rfl⟩
  have HRB := Lib.hid hrb
  rw [hrb]
  clear hl hw hrb
  have HB := Lib.hid (Below.refl w.heap.size w)
  go_enter Try.func27, Try.ntmps27
  go_wp2_with fail
  refine (rises_R HL.out HW.out).mono ?_
  rintro e w1 ⟨rfl, hb⟩
  replace HB := Lib.hid (HB.out.trans (hb.mono HB.out.size))
  replace HL := Lib.hid (HL.out.keep hb)
  clear hb
  rw [HRB.out]
  cases rb
  · go_wp2_with fail
    go_ret
    exact ⟨rfl, HB.out⟩
  · go_wp2_with fail
    refine (many_any l _ _ HL.out HRB.out).mono ?_
    rintro e w2 ⟨rfl, hb⟩
    replace HB := Lib.hid (HB.out.trans (hb.mono HB.out.size))
    replace HL := Lib.hid (HL.out.keep hb)
    clear hb
    go_wp2_with fail
    go_ret
    exact ⟨rfl, HB.out⟩
/-- the time of a place, or why there is none -/
def atP (l : List Rn) (i : Int) : Int × Int := if risesB l = false then (0, 170) else if i < 0 then (0, 4) else match (times l)[i.toNat]? with
  | some t => (t, 0)
  | none => (0, 4)
set_option maxHeartbeats 2000000 in
theorem at_any (l : List Rn) (v : Value) (i : Int) (w : World) (hi : I64 i) (hl : Rus w v l) (hw : ∀ r ∈ l, Rw r) :
    Calls Try.prog 18 #[v, .int .i64 i] w fun e w' => e = .returned (.tuple #[.int .i64 (atP l i).1, .int .i64 (atP l i).2]) ∧ Below w.heap.size w w' := by
  obtain ⟨x, cap, rfl, _⟩ := SlR.shape hl
  have HL := Lib.hid hl
  have hln := (Rus.len hl).2
  have HW := Lib.hid hw
  obtain ⟨i1, i2⟩ := hi
  obtain ⟨rb, hrb⟩ : ∃ b, risesB l = b := ⟨_, rfl⟩
  have HRB := Lib.hid hrb
  obtain ⟨g, hg⟩ : ∃ g, atP l i = g := ⟨_, rfl⟩
  rw [hg]
  have HG := Lib.hid hg
  clear hl hw hrb hg
  have HB := Lib.hid (Below.refl w.heap.size w)
  go_enter Try.func18, Try.ntmps18
  go_wp2_with fail
  refine (rises_R HL.out HW.out).mono ?_
  rintro e w1 ⟨rfl, hb⟩
  replace HB := Lib.hid (HB.out.trans (hb.mono HB.out.size))
  replace HL := Lib.hid (HL.out.keep hb)
  clear hb
  rw [HRB.out]
  cases rb
  · have hg := HG.out
    rw [atP, if_pos HRB.out] at hg
    subst hg
    go_wp2_with fail
    go_ret2
    exact ⟨rfl, HB.out⟩
  · have hg := HG.out
    rw [atP, if_neg (by rw [HRB.out]; decide)] at hg
    by_cases h0 : i < 0
    · rw [if_pos h0] at hg
      subst hg
      go_wp2_with fail
      go_ret2
      exact ⟨rfl, HB.out⟩
    · rw [if_neg h0] at hg
      clear HG
      have HG := Lib.hid hg
      clear hg
      go_wp2_with fail
      go_loopw [1, 15] (fun m q wr => ∃ k : Nat, k ≤ l.length ∧ q = .int .i64 k ∧ m = .int .i64 (i - many (l.take k)) ∧ many (l.take k) ≤ i ∧ 0 ≤ many (l.take k) ∧ Below w.heap.size w wr ∧ Rus wr (.slice x l.length cap) l) (fun _ i _ => l.length - (intOf i).toNat)
      case atStart => exact ⟨0, by omega, rfl, by simp [many], by simp [many]; omega, by simp [many], HB.out, HL.out⟩
      case round =>
        obtain ⟨k, hk, rfl, rfl, hmi, hm0, hb, h1⟩ := hrel
        replace HB := Lib.hid hb
        replace HL := Lib.hid h1
        clear hb h1
        obtain ⟨wA, hwA⟩ : ∃ x, x = wr := ⟨_, rfl⟩
        subst hwA
        by_cases hlt : k < l.length
        · have HSN := Lib.hid (many_snoc l k hlt)
          have hat := at_rises HRB.out hlt
          have hsz := (sized_iff _).1 hat.siz
          have hsl := sized_last hat.siz
          obtain ⟨b, o, cap', hve, _, _, _, _⟩ := SlR.pos HL.out (by decide) (by omega)
          simp only [Value.slice.injEq, true_and] at hve
          obtain ⟨rfl, rfl⟩ := hve
          have hrow := flat_at ruC 3 (by decide) HL.out (fun b hb => rfl) hlt
          have hta := fun h1 h2 => time_at hat i.toNat h1 h2
          obtain ⟨r, hr⟩ : ∃ r, l[k] = r := ⟨_, rfl⟩
          rw [hr] at HSN hrow hsz hsl hta
          clear hr hat
          obtain ⟨a, s, c⟩ := r
          simp only at hsz hsl hta
          have HTA := Lib.hid hta
          clear hta
          generalize many (l.take k) = mk at *
          have hsum : many (l.take (k + 1)) = mk + c := HSN.out
          have HSUM := Lib.hid hsum
          clear hsum
          obtain ⟨z1, z2, z3, z4, z5, z6⟩ := hsz
          unfold maxT at z4 z6
          by_cases hin : i - mk < c
          · have hv := HTA.out (by omega) (by omega)
            have hg := HG.out
            rw [hv] at hg
            have hp : 0 ≤ s * (i - mk) ∧ s * (i - mk) ≤ 71776119061217280 := by
              refine ⟨Int.mul_nonneg z5 (by omega), Int.le_trans (Int.mul_le_mul_of_nonneg_left (show i - mk ≤ c - 1 by omega) z5) hsl.2⟩
            have hval : (a + s * ((i.toNat : Int) - mk), (0 : Int)) = g := hg
            rw [show ((i.toNat : Nat) : Int) = i by omega] at hval
            clear hv hg
            have HV := Lib.hid hval
            clear hval hsl
            obtain ⟨p1, p2⟩ := hp
            go_wp2_with (refine Agg.gLoad 3 [.int .i64 a, .int .i64 s, .int .i64 c] rfl rfl rfl (by decide +kernel) rfl hrow ?_; simp only [Act.put, List.setIfInBounds_toArray, List.set_cons_succ, List.set_cons_zero])
            go_ret2
            refine ⟨?_, Agg.bel_alloc HB.out _⟩
            rw [← HV.out]
            rfl
          · go_wp2_with (refine Agg.gLoad 3 [.int .i64 a, .int .i64 s, .int .i64 c] rfl rfl rfl (by decide +kernel) rfl hrow ?_; simp only [Act.put, List.setIfInBounds_toArray, List.set_cons_succ, List.set_cons_zero])
            exact ⟨⟨k + 1, by omega, by go_num, by rw [HSUM.out]; go_num, by rw [HSUM.out]; omega, by rw [HSUM.out]; omega, Agg.bel_alloc HB.out _, HL.out.keep (Agg.bel_alloc (Below.refl _ _) _)⟩, by simp [intOf]; omega⟩
        · obtain rfl : k = l.length := by omega
          have hg := HG.out
          rw [List.take_length] at hmi hm0 ⊢
          have htl := (times_len HRB.out).1
          rw [List.getElem?_eq_none (by omega)] at hg
          subst hg
          go_wp2_with fail
          go_ret2
          exact ⟨rfl, HB.out⟩
set_option maxHeartbeats 2000000 in
theorem below_any (l : List Rn) (v : Value) (t : Int) (w : World) (ht : I64 t) (hl : Rus w v l) (hr : risesB l = true) :
    Calls Try.prog 38 #[v, .int .i64 t] w fun e w' => e = .returned (.int .i64 (nBelow t (times l) : Int)) ∧ Below w.heap.size w w' := by
  obtain ⟨x, cap, rfl, _⟩ := SlR.shape hl
  have HL := Lib.hid hl
  have hln := (Rus.len hl).2
  obtain ⟨i1, i2⟩ := ht
  have HRB := Lib.hid hr
  obtain ⟨g, hg⟩ : ∃ g : Int, (nBelow t (times l) : Int) = g := ⟨_, rfl⟩
  rw [hg]
  have HG := Lib.hid hg
  clear hl hr hg
  have HB := Lib.hid (Below.refl w.heap.size w)
  go_enter Try.func38, Try.ntmps38
  go_wp2_with fail
  go_loopw [5, 10] (fun m q wr => ∃ k : Nat, k ≤ l.length ∧ q = .int .i64 k ∧ m = .int .i64 (many (l.take k)) ∧ (∀ x ∈ times (l.take k), x < t) ∧ Below w.heap.size w wr ∧ Rus wr (.slice x l.length cap) l) (fun _ i _ => l.length - (intOf i).toNat)
  case atStart => exact ⟨0, by omega, rfl, rfl, fun x hx => (by cases hx), HB.out, HL.out⟩
  case round =>
    obtain ⟨k, hk, rfl, rfl, hbf, hb, h1⟩ := hrel
    replace HB := Lib.hid hb
    replace HL := Lib.hid h1
    have HBF := Lib.hid hbf
    clear hb h1 hbf
    obtain ⟨wA, hwA⟩ : ∃ x, x = wr := ⟨_, rfl⟩
    subst hwA
    by_cases hlt : k < l.length
    · have HSN := Lib.hid (many_snoc l k hlt)
      have hat := at_rises HRB.out hlt
      have hsz := (sized_iff _).1 hat.siz
      have hbig := hat.big
      have hpos := hat.pos
      have hl4 := hat.cok.2.2.2.2
      have HAT := Lib.hid hat
      have hpass := fun A h => below_pass (t := t) hlt rfl A HBF.out h
      obtain ⟨b, o, cap', hve, _, _, _, _⟩ := SlR.pos HL.out (by decide) (by omega)
      simp only [Value.slice.injEq, true_and] at hve
      obtain ⟨rfl, rfl⟩ := hve
      have hrow := flat_at ruC 3 (by decide) HL.out (fun b hb => rfl) hlt
      obtain ⟨r, hr⟩ : ∃ r, l[k] = r := ⟨_, rfl⟩
      rw [hr] at HSN hrow hsz HAT hpass hbig hl4
      have HPASS := Lib.hid (hpass HAT.out)
      have hin := fun h1 h2 => below_in HAT.out HBF.out (t := t) h1 h2
      have hhere := fun h => below_here HAT.out HBF.out (t := t) h
      have HIN := Lib.hid hin
      have HHE := Lib.hid hhere
      clear hr hat hpass hin hhere
      obtain ⟨a, s, c⟩ := r
      simp only at hsz hbig
      have HSZ := Lib.hid HAT.out.siz
      clear HAT
      generalize many (l.take k) = mk at *
      have hsum : many (l.take (k + 1)) = mk + c := HSN.out
      have HSUM := Lib.hid hsum
      clear hsum
      obtain ⟨z1, z2, z3, z4, z5, z6⟩ := hsz
      unfold maxT at z4 z6 hl4
      by_cases ha : t ≤ a
      · have hv := HHE.out ha
        rw [HG.out] at hv
        subst hv
        go_wp2_with (refine Agg.gLoad 3 [.int .i64 a, .int .i64 s, .int .i64 c] rfl rfl rfl (by decide +kernel) rfl hrow ?_; simp only [Act.put, List.setIfInBounds_toArray, List.set_cons_succ, List.set_cons_zero])
        go_ret
        exact ⟨rfl, Agg.bel_alloc HB.out _⟩
      · obtain ⟨z, hz⟩ : ∃ z, last (a, s, c) = z := ⟨_, rfl⟩
        rw [hz] at hl4
        have HZ := Lib.hid hz
        clear hz
        go_wp2_with (refine Agg.gLoad 3 [.int .i64 a, .int .i64 s, .int .i64 c] rfl rfl rfl (by decide +kernel) rfl hrow ?_; simp only [Act.put, List.setIfInBounds_toArray, List.set_cons_succ, List.set_cons_zero])
        clear hrow
        refine Agg.calls_at fun w21 hw21 => ?_
        have hb : Below wA.heap.size wA w21 := by rw [hw21.out]; repeat (first | exact Below.refl _ _ | refine Agg.bel_drew ?_ | refine Agg.bel_alloc ?_ _)
        replace HB := Lib.hid (HB.out.trans (hb.mono HB.out.size))
        replace HL := Lib.hid (HL.out.keep hb)
        clear hb
        have H7 : Hid (Blk w21 wA.heap.size 31 [.int .i64 a, .int .i64 s, .int .i64 c]) := by show Blk _ _ _ _; rw [hw21.out]; exact Blk.new wA 31 #[.int .i64 a, .int .i64 s, .int .i64 c]
        clear hw21
        generalize wA.heap.size = g7 at *
        refine (last_any (a, s, c) HSZ.out w21).mono ?_
        rintro e w22 ⟨rfl, hb⟩
        replace HB := Lib.hid (HB.out.trans (hb.mono HB.out.size))
        replace HL := Lib.hid (HL.out.keep hb)
        replace H7 := Lib.hid (H7.out.keep hb)
        clear hb
        rw [HZ.out]
        have xH7_0 := H7.out.cell 0
        have xH7_1 := H7.out.cell 1
        have xH7_2 := H7.out.cell 2
        have lH7 := H7.out.lt
        simp only [List.getElem?_cons_zero, List.getElem?_cons_succ] at xH7_0 xH7_1 xH7_2
        by_cases hb2 : t > z
        · have hps := HPASS.out (by rw [HZ.out]; exact hb2)
          have HPS := Lib.hid hps
          clear hps
          go_wp2_with fail
          exact ⟨⟨k + 1, by omega, by go_num, by rw [HSUM.out], HPS.out, HB.out, HL.out⟩, by simp [intOf]; omega⟩
        · have hv := HIN.out (by show a < t; omega) (by rw [HZ.out]; omega)
          rw [HG.out] at hv
          obtain ⟨v1, v2, v3, v4⟩ := hv
          have HV := Lib.hid v1
          clear v1
          have hn0 : 0 ≤ t - a - 1 := by omega
          go_wp2_with fail
          go_ret
          refine ⟨?_, HB.out⟩
          rw [HV.out]
          rfl
    · obtain rfl : k = l.length := by omega
      rw [List.take_length]
      have hba := nBelow_all HBF.out
      rw [List.take_length] at hba
      have htl := (times_len HRB.out).1
      have hgm : g = many l := by rw [← HG.out, hba, htl]
      subst hgm
      clear hba htl
      go_wp2_with fail
      go_ret
      exact ⟨rfl, HB.out⟩
/-- the place of a time -/
def findP (l : List Rn) (t : Int) : Int × Bool := if risesB l = false then (0, false) else if (times l)[nBelow t (times l)]? = some t then ((nBelow t (times l) : Int), true) else (0, false)
set_option maxHeartbeats 1000000 in
theorem find_any (l : List Rn) (v : Value) (t : Int) (w : World) (ht : I64 t) (hl : Rus w v l) (hw : ∀ r ∈ l, Rw r) :
    Calls Try.prog 19 #[v, .int .i64 t] w fun e w' => e = .returned (.tuple #[.int .i64 (findP l t).1, .bool (findP l t).2]) ∧ Below w.heap.size w w' := by
  obtain ⟨x, cap, rfl, _⟩ := SlR.shape hl
  have HL := Lib.hid hl
  have HW := Lib.hid hw
  have HT := Lib.hid ht
  obtain ⟨rb, hrb⟩ : ∃ b, risesB l = b := ⟨_, rfl⟩
  have HRB := Lib.hid hrb
  obtain ⟨g, hg⟩ : ∃ g, findP l t = g := ⟨_, rfl⟩
  rw [hg]
  have HG := Lib.hid hg
  clear hl hw hrb hg ht
  have HB := Lib.hid (Below.refl w.heap.size w)
  go_enter Try.func19, Try.ntmps19
  go_wp2_with fail
  refine (rises_R HL.out HW.out).mono ?_
  rintro e w1 ⟨rfl, hb⟩
  replace HB := Lib.hid (HB.out.trans (hb.mono HB.out.size))
  replace HL := Lib.hid (HL.out.keep hb)
  clear hb
  rw [HRB.out]
  cases rb
  · have hg := HG.out
    rw [findP, if_pos HRB.out] at hg
    subst hg
    go_wp2_with fail
    go_ret2
    exact ⟨rfl, HB.out⟩
  · have hg := HG.out
    rw [findP, if_neg (by rw [HRB.out]; decide)] at hg
    have HG2 := Lib.hid hg
    have hat : atP l (nBelow t (times l) : Int) = match (times l)[nBelow t (times l)]? with | some u => (u, 0) | none => (0, 4) := by
      rw [atP, if_neg (by rw [HRB.out]; decide), if_neg (by omega), Int.toNat_natCast]
    have HAT := Lib.hid hat
    have hi : I64 (nBelow t (times l) : Int) := by
      have h1 := (times_len HRB.out).2; have h2 := (times_len HRB.out).1; have h3 := nBelow_le t (times l)
      exact ⟨by omega, by omega⟩
    have HI := Lib.hid hi
    have HBL := Lib.hid (fun W hW => below_any l (.slice x l.length cap) t W HT.out hW HRB.out)
    clear hg hat hi HG
    obtain ⟨n, hn⟩ : ∃ n, nBelow t (times l) = n := ⟨_, rfl⟩
    rw [hn] at HG2 HAT HI HBL
    clear hn
    obtain ⟨q, hq⟩ : ∃ q, (times l)[n]? = q := ⟨_, rfl⟩
    rw [hq] at HG2 HAT
    clear hq
    go_wp2_with fail
    refine (HBL.out w1 HL.out).mono ?_
    rintro e w2 ⟨rfl, hb⟩
    replace HB := Lib.hid (HB.out.trans (hb.mono HB.out.size))
    replace HL := Lib.hid (HL.out.keep hb)
    clear hb
    go_wp2_with fail
    refine (at_any l _ (n : Int) w2 HI.out HL.out HW.out).mono ?_
    rintro e w3 ⟨rfl, hb⟩
    replace HB := Lib.hid (HB.out.trans (hb.mono HB.out.size))
    replace HL := Lib.hid (HL.out.keep hb)
    clear hb
    rw [HAT.out]
    cases q with
    | none =>
      have hg := HG2.out
      rw [if_neg (by simp)] at hg
      subst hg
      go_wp2_with fail
      go_ret2
      exact ⟨rfl, HB.out⟩
    | some u =>
      have hg := HG2.out
      by_cases hu : u = t
      · subst hu
        rw [if_pos rfl] at hg
        subst hg
        have hub : (u != u) = false := by simp
        go_wp2_with fail
        go_ret2
        exact ⟨rfl, HB.out⟩
      · rw [if_neg (by simpa using hu)] at hg
        subst hg
        have hub : (u != t) = true := by simpa using hu
        go_wp2_with fail
        go_ret2
        exact ⟨rfl, HB.out⟩
/-- the places of the times from a to b -/
def clipP (l : List Rn) (a b : Int) : Int × Int := if risesB l = false then (0, 0) else ((nBelow a (times l) : Int), if maxT ≤ b then many l else max (nBelow a (times l) : Int) (nBelow (b + 1) (times l) : Int))
set_option maxHeartbeats 1000000 in
theorem clip_any (l : List Rn) (v : Value) (a b : Int) (w : World) (ha : I64 a) (hb0 : I64 b) (hl : Rus w v l) (hw : ∀ r ∈ l, Rw r) :
    Calls Try.prog 20 #[v, .int .i64 a, .int .i64 b] w fun e w' => e = .returned (.tuple #[.int .i64 (clipP l a b).1, .int .i64 (clipP l a b).2]) ∧ Below w.heap.size w w' := by
  obtain ⟨x, cap, rfl, _⟩ := SlR.shape hl
  have HL := Lib.hid hl
  have HW := Lib.hid hw
  have HA := Lib.hid ha
  obtain ⟨b1, b2⟩ := hb0
  obtain ⟨rb, hrb⟩ : ∃ b, risesB l = b := ⟨_, rfl⟩
  have HRB := Lib.hid hrb
  obtain ⟨g, hg⟩ : ∃ g, clipP l a b = g := ⟨_, rfl⟩
  rw [hg]
  have HG := Lib.hid hg
  clear hl hw hrb hg ha
  have HB := Lib.hid (Below.refl w.heap.size w)
  go_enter Try.func20, Try.ntmps20
  go_wp2_with fail
  refine (rises_R HL.out HW.out).mono ?_
  rintro e w1 ⟨rfl, hb⟩
  replace HB := Lib.hid (HB.out.trans (hb.mono HB.out.size))
  replace HL := Lib.hid (HL.out.keep hb)
  clear hb
  rw [HRB.out]
  cases rb
  · have hg := HG.out
    rw [clipP, if_pos HRB.out] at hg
    subst hg
    go_wp2_with fail
    go_ret2
    exact ⟨rfl, HB.out⟩
  · have hg := HG.out
    rw [clipP, if_neg (by rw [HRB.out]; decide)] at hg
    have HBL := Lib.hid (fun W hW => below_any l (.slice x l.length cap) a W HA.out hW HRB.out)
    clear HG
    obtain ⟨n, hn⟩ : ∃ n, nBelow a (times l) = n := ⟨_, rfl⟩
    rw [hn] at HBL hg
    have HG := Lib.hid hg
    clear hn hg
    go_wp2_with fail
    refine (HBL.out w1 HL.out).mono ?_
    rintro e w2 ⟨rfl, hb⟩
    replace HB := Lib.hid (HB.out.trans (hb.mono HB.out.size))
    replace HL := Lib.hid (HL.out.keep hb)
    clear hb
    by_cases hbm : b ≥ 281474976710656
    · have hg := HG.out
      rw [if_pos (by unfold maxT; omega)] at hg
      subst hg
      go_wp2_with fail
      refine (many_any l _ w2 HL.out HRB.out).mono ?_
      rintro e w3 ⟨rfl, hb⟩
      replace HB := Lib.hid (HB.out.trans (hb.mono HB.out.size))
      replace HL := Lib.hid (HL.out.keep hb)
      clear hb
      go_wp2_with fail
      go_ret2
      exact ⟨rfl, HB.out⟩
    · have hg := HG.out
      rw [if_neg (by unfold maxT; omega)] at hg
      have HB2 := Lib.hid (fun W hW => below_any l (.slice x l.length cap) (b + 1) W ⟨by omega, by omega⟩ hW HRB.out)
      obtain ⟨n2, hn2⟩ : ∃ n, nBelow (b + 1) (times l) = n := ⟨_, rfl⟩
      rw [hn2] at hg HB2
      subst hg
      clear hn2 HG
      go_wp2_with fail
      refine (HB2.out w2 HL.out).mono ?_
      rintro e w4 ⟨rfl, hb⟩
      replace HB := Lib.hid (HB.out.trans (hb.mono HB.out.size))
      replace HL := Lib.hid (HL.out.keep hb)
      clear hb
      go_wp2_with (refine Agg.max2 _ _ _ (max (n : Int) (n2 : Int)) rfl rfl rfl rfl rfl ?_; simp only [Act.put, List.setIfInBounds_toArray, List.set_cons_succ, List.set_cons_zero])
      go_ret2
      exact ⟨rfl, HB.out⟩
end Go.Proofs.Ytpligbfajnjklaa
end
section
/-
  ROWS of one's own beside blocks that are known (parts of XDvG .. XDvJ, for other seats). Over any program.
-/
namespace Agg
open Go Go.RowKit
/-- a block of another type is not a row's -/
theorem own_apart {w : World} {base : Nat} {e T : TypeId} {sz n t : Nat} {v : Value} {xs cs : List Value} (h : w.ownsRow base e sz v n xs) (hb : Blk w t T cs) (hne : e ≠ T) : v.ownBlock = none ∨ v.ownBlock ≠ some t := by
  rcases h.2 with ⟨rfl, _⟩ | ⟨g, cap, cur, rfl, _, h3, _⟩
  · exact .inl rfl
  · refine .inr (fun e2 => ?_)
    have : g = t := by simpa [Value.ownBlock] using e2
    subst this
    rw [hb] at h3
    cases h3
    exact hne rfl
theorem blk_row {w w' : World} {t : Nat} {T : TypeId} {cs : List Value} {row : Option Nat} (h : Blk w t T cs) (hg : w.grownBy w' row) (hne : row = none ∨ row ≠ some t) : Blk w' t T cs :=
  (hg.block _ h.lt (hne.elim (fun e => by rw [e]; simp) (fun e e2 => e e2.symm))).trans h
theorem blk_ne {w : World} {t g : Nat} {T E : TypeId} {cs ds : List Value} (h : Blk w t T cs) (h2 : Blk w g E ds) (hne : T ≠ E) : t ≠ g := by
  intro e
  subst e
  unfold Blk at h h2
  rw [h] at h2
  cases h2
  exact hne rfl
theorem own_base {w : World} {b b' : Nat} {e : TypeId} {sz : Nat} {v : Value} {n : Nat} {xs : List Value} (h : w.ownsRow b e sz v n xs) (hb : b' ≤ b) : w.ownsRow b' e sz v n xs := own_mono h hb
end Agg
end
