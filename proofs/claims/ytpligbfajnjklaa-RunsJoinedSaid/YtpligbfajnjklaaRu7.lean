/-
  THE WALKS OF LAYER 7 (runs): the runs of times.
-/
import Derived.Test.YtpligbfajnjklaaRu6
namespace Go.Proofs.Ytpligbfajnjklaa
open Go.ChangeShapes Go.WideShapes Go.ChangeAt Go.RowKit Agg Pg Ru

theorem ti22 : TI Try.prog 22 2 1 8 (.int .i64 0) := ⟨by kernel_rfl, by kernel_rfl, rfl, by decide⟩
def tC (l : List Int) : List Value := l.map fun d => Value.int .i64 d
abbrev Tms (w : World) (v : Value) (l : List Int) : Prop := SlR w v 1 l.length (tC l)
def prevUp (l : List Int) (k : Nat) (t : Int) : Bool := match k with
  | 0 => true
  | j + 1 => match l[j]? with
    | some p => decide (p < t)
    | none => true
theorem upAt_eq (l : List Int) (k : Nat) (h : k < l.length) : upAt l k = (decide (0 ≤ l[k]) && decide (l[k] ≤ maxT) && prevUp l k l[k]) := by
  unfold upAt prevUp; rw [List.getElem?_eq_getElem h]; cases k <;> rfl
/-- a row's take, as a function -/
def takeV (g : Nat) : Value := .func (.func 50) #[.pointer (some ⟨g, 0, none⟩)] #[]
theorem of1_any (s : Rn × List Rn) (t : Int) (base g : Nat) (w : World) (hi : RowI s) (ht : 0 ≤ t ∧ t ≤ maxT) (hbw : base ≤ w.heap.size) (h : RowO base w g s) :
    Calls Try.prog 36 #[.int .i64 t, takeV g] w fun e w' => e = .returned (.tuple #[]) ∧ RowO base w' g (take s t) ∧ Below base w w' := by
  have HT := Lib.hid (take_any s t base g w hi ht hbw h)
  unfold takeV
  clear hi ht h
  go_enter Try.func36, Try.ntmps36
  go_wp2_with fail
  refine HT.out.mono ?_
  rintro e w1 ⟨rfl, h1, h2⟩
  go_wp2_with fail
  go_end0
  exact ⟨rfl, h1, h2⟩
theorem rowNew (w : World) : RowO w.heap.size (w.alloc (.cells #[.int .i64 0, .int .i64 0, .int .i64 0, .slice none 0 0] 76)) w.heap.size row0 :=
  ⟨_, Nat.le_refl _, Blk.new w 76 #[.int .i64 0, .int .i64 0, .int .i64 0, .slice none 0 0], World.ownsRow_nil _ _ _ _⟩
set_option maxHeartbeats 2000000 in
set_option maxRecDepth 100000 in
theorem laid_any (l : List Int) (v : Value) (w : World) (hl : Tms w v l) (hr : risingB l = true) :
    Calls Try.prog 35 #[v, .func (.func 36) #[] #[]] w fun e w' => ∃ u, e = .returned u ∧ w'.ownsRow w.heap.size 31 3 u (ofR l).length ((ofR l).flatMap ruC) ∧ Below w.heap.size w w' := by
  obtain ⟨x, cap, rfl, hc1, hc2⟩ := SlR.shape hl
  have HL := Lib.hid hl
  have HL0 := HL
  have HR := Lib.hid hr
  have HRO := Lib.hid (fun k hk => row_ok hr k hk)
  have HUP := Lib.hid ((rising_iff l).1 hr).2.2
  have hlen : (l.length : Int) ≤ 256 := by have := ((rising_iff l).1 hr).2.1; omega
  have hne : l ≠ [] := fun e => by have := ((rising_iff l).1 hr).1; subst e; simp at this
  have HLO := Lib.hid (laid_of l hne)
  have hmf : ∀ (fn : Fn) (first cap : Array Value) (w : World), (Instr.makeFunc fn first cap).run Try.prog w = .ok (.func fn first cap) w := fun _ _ _ _ => rfl
  clear hl hr hne hc1 hc2
  have HB := Lib.hid (Below.refl w.heap.size w)
  go_enter Try.func35, Try.ntmps35
  go_upto_region 2 with (fail)
  refine Agg.wp_at fun w1 hw1 => ?_
  have hb : Below w.heap.size w w1 := by rw [hw1.out]; repeat (first | exact Below.refl _ _ | refine Agg.bel_drew ?_ | refine Agg.bel_alloc ?_ _)
  replace HB := Lib.hid (HB.out.trans (hb.mono HB.out.size))
  replace HL := Lib.hid (HL.out.keep hb)
  clear hb
  have HRW : Hid (RowO w.heap.size w1 w.heap.size row0) := Lib.hid (by rw [hw1.out]; exact rowNew w)
  clear hw1
  go_wp2_with fail
  clear hmf
  go_loopw [12] (fun i wr => ∃ k : Nat, k ≤ l.length ∧ i = .int .i64 k ∧ Below w.heap.size w wr ∧ Tms wr (.slice x l.length cap) l ∧ RowO w.heap.size wr w.heap.size ((l.take k).foldl take row0)) (fun i _ => l.length - (intOf i).toNat)
  case atStart => exact ⟨0, by omega, rfl, HB.out, HL.out, HRW.out⟩
  case round =>
    obtain ⟨k, hk, rfl, hb, h1, h2⟩ := hrel
    replace HB := Lib.hid hb
    replace HL := Lib.hid h1
    replace HRW := Lib.hid h2
    clear hb h1 h2
    obtain ⟨wA, hwA⟩ : ∃ x, x = wr := ⟨_, rfl⟩
    subst hwA
    by_cases hlt : k < l.length
    · obtain ⟨b, o, cap', hve, _, _, hcm, _⟩ := SlR.pos HL.out (by decide) (by omega)
      simp only [Value.slice.injEq, true_and] at hve
      obtain ⟨rfl, rfl⟩ := hve
      have hcs : wA.cell? ⟨b, o + k, none⟩ = some (.int .i64 l[k]) := hcm k _ (by simp [tC, List.getElem?_eq_getElem hlt])
      have hst : (l.take (k + 1)).foldl take row0 = take ((l.take k).foldl take row0) l[k] := by rw [List.take_succ_eq_append_getElem hlt, List.foldl_append]; rfl
      have HST := Lib.hid hst
      have hro := HRO.out k hk
      have HI : Hid (RowI ((l.take k).foldl take row0)) := Lib.hid ⟨hro.1, Nat.le_trans hro.2 (by decide)⟩
      have HTB := Lib.hid (HUP.out.1 l[k] (List.getElem_mem hlt))
      clear hcm hst hro
      generalize l[k] = t at *
      generalize (l.take k).foldl take row0 = s at *
      go_wp2_with fail
      refine (of1_any s t w.heap.size w.heap.size wA HI.out HTB.out HB.out.size HRW.out).mono ?_
      rintro e w1 ⟨rfl, h1, h2⟩
      have hb2 := HB.out.trans h2
      have hl2 : Tms w1 (.slice (some ⟨b, o, none⟩) l.length cap) l := SlR.keep HL0.out hb2
      go_wp2_with fail
      exact ⟨⟨k + 1, by omega, by go_num, hb2, hl2, by rw [HST.out]; exact h1⟩, by simp [intOf]; omega⟩
    · obtain rfl : k = l.length := by omega
      rw [List.take_length] at HRW
      have hlo := HLO.out
      have hdl := (HRO.out l.length (Nat.le_refl _)).2
      rw [List.take_length] at hdl
      generalize l.foldl take row0 = s at *
      obtain ⟨⟨a, st, c⟩, D⟩ := s
      simp only at hlo hdl
      obtain ⟨v, _, h1, h2⟩ := HRW.out
      obtain ⟨vx, vc, rfl, _, _⟩ := (ownSl h2).shape
      simp only at h1 h2
      have H1 := Lib.hid h1
      have HD := Lib.hid h2
      have h1r : ∀ i v, (ruC (a, st, c))[i]? = some v → wA.cell? ⟨w.heap.size, 0 + 0 + 0 + i, none⟩ = some v := fun i v hv => by
        rw [H1.out.cell]
        simp only [Nat.zero_add]
        match i, hv with
        | 0, hv => exact hv
        | 1, hv => exact hv
        | 2, hv => exact hv
      have H1R := Lib.hid h1r
      have HLO2 := Lib.hid hlo
      clear h1 h2 h1r hlo HRW
      go_upto_region 8 with (fail)
      refine Agg.listR 6 (by kernel_rfl) ?_
      simp only [List.take_succ_cons, List.take_zero, List.drop_succ_cons, List.drop_zero]
      refine Agg.chFA fo_fo_Row_1 rfl rfl rfl rfl ?_
      refine Agg.chLoadB H1.out (by decide +kernel) rfl rfl (by rfl) rfl rfl ?_
      refine Agg.chFA fo_fo_Row_0 rfl rfl rfl rfl ?_
      refine Agg.chFA fo_fo_Open_0 rfl rfl rfl rfl ?_
      refine Agg.chRowAt 3 (ruC (a, st, c)) rfl (by decide +kernel) rfl rfl rfl rfl H1R.out ?_
      refine Agg.chBuildSlice (e := 31) (ruC (a, st, c)).toArray rfl rfl rfl rfl (fun W => lit_run (a, st, c) W) ?_
      refine Agg.chEnd ?_
      intro vs w21 hb hf
      simp only [List.reverse, List.reverseAux, Agg.Facts] at hf
      obtain ⟨⟨g9, hv9, hb9, hk9⟩, _⟩ := hf
      simp only [List.reverse, List.reverseAux, Agg.fill, List.set_cons_succ, List.set_cons_zero, hv9]
      clear hv9
      have hC3 := own_keep HD.out hb
      have hsl : SlR w21 (.slice (some ⟨g9, 0, none⟩) 1 1) 3 1 (ruC (a, st, c)) := NewSl.sl (b0 := wA.heap.size) (e := 31) ⟨g9, rfl, hb9, hk9⟩ rfl (by unfold maxLen; decide)
      have HB3 := Lib.hid (HB.out.trans (hb.mono HB.out.size))
      clear hb9 hk9 hb
      refine Agg.append ti24 (.tmp 22) (.tmp 26) rfl rfl w.heap.size (v := .slice vx D.length vc) rfl hC3 rfl hsl (by simp [ruC, Value.oneCell']) (by unfold maxLen; omega) (by omega) HB3.out.size ?_
      intro v' w4 hC4 hg4 _
      simp only [Act.put, List.setIfInBounds_toArray, List.set_cons_succ, List.set_cons_zero]
      have hB4 := HB3.out.trans (grown_below hg4 HB3.out.size (own_block hC3))
      clear hg4 hC3 hsl
      go_wp2_with fail
      go_ret
      refine ⟨_, rfl, ?_, hB4⟩
      rw [← HLO2.out, List.length_append, List.flatMap_append]
      simpa using hC4
set_option maxHeartbeats 2000000 in
set_option maxRecDepth 100000 in
theorem of_any (l : List Int) (v : Value) (w : World) (hl : Tms w v l) :
    Calls Try.prog 12 #[v] w fun e w' => ∃ u, e = .returned (.tuple #[u, .int .i64 (if risingB l then 0 else 2)]) ∧ (if risingB l then w'.ownsRow w.heap.size 31 3 u (ofR l).length ((ofR l).flatMap ruC) else u = .slice none 0 0) ∧ Below w.heap.size w w' := by
  obtain ⟨x, cap, rfl, hc1, hc2⟩ := SlR.shape hl
  have HL := Lib.hid hl
  have hln : (l.length : Int) ≤ 9223372036854775807 := by unfold maxLen at hc2; omega
  obtain ⟨rb, hrb⟩ : ∃ b, risingB l = b := ⟨_, rfl⟩
  have HRB := Lib.hid hrb
  rw [hrb]
  have HLA := Lib.hid (fun W hW hr => laid_any l (.slice x l.length cap) W hW hr)
  have HBADK : Hid (∀ k, k < l.length → upAt l k = false → rb = false) := Lib.hid (fun k hk h => by
    cases rb with
    | false => rfl
    | true =>
      simp only [risingB, Bool.and_eq_true, List.all_eq_true] at hrb
      have := hrb.2 k (List.mem_range.2 hk)
      rw [h] at this; cases this)
  clear hl hc1 hc2 hrb
  have HB := Lib.hid (Below.refl w.heap.size w)
  go_enter Try.func12, Try.ntmps12
  by_cases h0 : l.length = 0
  · have hb : rb = false := by rw [← HRB.out]; simp [risingB, h0]
    subst hb
    have h0b : ((l.length : Int) == 0) = true := by simp [h0]
    clear h0
    go_wp2_with fail
    go_ret2
    exact ⟨_, rfl, by simp, HB.out⟩
  · have h0b : ((l.length : Int) == 0) = false := by simpa using h0
    by_cases h256 : l.length ≤ 256
    · have h256b : ¬ (l.length : Int) > 256 := by omega
      go_wp2_with fail
      go_loopw [16] (fun i wr => ∃ k : Nat, k ≤ l.length ∧ i = .int .i64 k ∧ (∀ j, j < k → upAt l j = true) ∧ Below w.heap.size w wr ∧ Tms wr (.slice x l.length cap) l) (fun i _ => l.length - (intOf i).toNat)
      case atStart => exact ⟨0, by omega, rfl, fun j hj => absurd hj (by omega), HB.out, HL.out⟩
      case round =>
        obtain ⟨k, hk, rfl, hup, hb, h1⟩ := hrel
        have HUP := Lib.hid hup
        replace HB := Lib.hid hb
        replace HL := Lib.hid h1
        clear hup hb h1
        obtain ⟨wA, hwA⟩ : ∃ x, x = wr := ⟨_, rfl⟩
        subst hwA
        by_cases hlt : k < l.length
        · obtain ⟨b, o, cap', hve, _, _, hcm, _⟩ := SlR.pos HL.out (by decide) (by omega)
          simp only [Value.slice.injEq, true_and] at hve
          obtain ⟨rfl, rfl⟩ := hve
          have hcs : wA.cell? ⟨b, o + k, none⟩ = some (.int .i64 (l[k]'hlt)) := hcm k _ (by simp [tC, List.getElem?_eq_getElem hlt])
          have hua := upAt_eq l k hlt
          have HBK := Lib.hid (HBADK.out k hlt)
          have hcp : ∀ j (hj : k = j + 1), wA.cell? ⟨b, o + (((j + 1 : Nat) : Int) - 1).toNat * 1, none⟩ = some (.int .i64 (l[j]'(by omega))) := fun j hj => by
            rw [show (((j + 1 : Nat) : Int) - 1).toNat * 1 = j by omega]
            exact hcm j _ (by simp [tC, List.getElem?_eq_getElem (show j < l.length by omega)])
          have HCP := Lib.hid hcp
          obtain ⟨t, ht⟩ : ∃ t, l[k]'hlt = t := ⟨_, rfl⟩
          rw [ht] at hcs hua
          have HUA := Lib.hid hua
          clear hua hcm hcp ht
          go_upto_region 6 with (fail)
          clear hcs
          go_cut [39] from 21 to 39 (fun v wx => v = .bool (!upAt l k) ∧ Below wA.heap.size wA wx)
          case first =>
            by_cases t0 : t < 0
            · have e : upAt l k = false := by rw [HUA.out, show decide (0 ≤ t) = false by simp; omega]; rfl
              have E := Lib.hid e
              clear e
              go_wp2_with fail
              go_meet
              exact ⟨by rw [E.out]; rfl, Below.refl _ _⟩
            · by_cases t1 : t > 281474976710656
              · have e : upAt l k = false := by rw [HUA.out, decide_eq_false (show ¬ t ≤ maxT by unfold maxT; omega), Bool.and_false]; rfl
                have E := Lib.hid e
                clear e
                go_wp2_with fail
                go_meet
                exact ⟨by rw [E.out]; rfl, Below.refl _ _⟩
              · have e0 : upAt l k = prevUp l k t := by rw [HUA.out, show decide (0 ≤ t) = true by simp; omega, decide_eq_true (show t ≤ maxT by unfold maxT; omega)]; rfl
                have E0 := Lib.hid e0
                clear e0
                cases k with
                | zero =>
                  go_wp2_with fail
                  go_meet
                  exact ⟨by rw [E0.out]; rfl, Below.refl _ _⟩
                | succ j =>
                  have hcp := HCP.out j rfl
                  have hj : j < l.length := by omega
                  have hpu : prevUp l (j + 1) t = decide (l[j]'hj < t) := by simp only [prevUp, List.getElem?_eq_getElem hj]
                  obtain ⟨p, hp⟩ : ∃ p, l[j]'hj = p := ⟨_, rfl⟩
                  rw [hp] at hcp hpu
                  have HC := Lib.hid hcp
                  have HPU := Lib.hid hpu
                  clear hcp hp hpu
                  by_cases hpt : p < t
                  · have hpt2 := hpt
                    refine Agg.listR 19 (by kernel_rfl) ?_
                    simp only [List.take_succ_cons, List.take_zero, List.drop_succ_cons, List.drop_zero]
                    refine Agg.chMove rfl rfl rfl rfl ?_
                    refine Agg.chLt false (by simp; omega) rfl rfl rfl rfl rfl ?_
                    refine Agg.chMove rfl rfl rfl rfl ?_
                    refine Agg.chMove rfl rfl rfl rfl ?_
                    refine Agg.chGt false (by simp; omega) rfl rfl rfl rfl rfl ?_
                    refine Agg.chPick rfl rfl rfl rfl rfl ?_
                    refine Agg.chMove rfl rfl rfl rfl ?_
                    refine Agg.chMove rfl rfl rfl rfl ?_
                    refine Agg.chGt true (by simp) rfl rfl rfl rfl rfl ?_
                    refine Agg.chMove rfl rfl rfl rfl ?_
                    refine Agg.chMove rfl rfl rfl rfl ?_
                    refine Agg.chMove rfl rfl rfl rfl ?_
                    refine Agg.chAr64 rfl rfl rfl rfl (by omega) (by omega) rfl rfl ?_
                    refine Agg.chIA ti22 (by omega) (by omega) rfl rfl rfl rfl rfl ?_
                    refine Agg.chLoad rfl rfl rfl rfl (by decide +kernel) HC.out ?_
                    refine Agg.chMove rfl rfl rfl rfl ?_
                    refine Agg.chGe false (by simp; omega) rfl rfl rfl rfl rfl ?_
                    refine Agg.chPick rfl rfl rfl rfl rfl ?_
                    refine Agg.chPick rfl rfl rfl rfl rfl ?_
                    refine Agg.chEnd ?_
                    intro vs w41 hb hf
                    simp only [List.reverse, List.reverseAux, Agg.Facts] at hf
                    obtain _ := hf
                    simp only [List.reverse, List.reverseAux, Agg.fill, List.set_cons_succ, List.set_cons_zero]
                    go_wp2_with fail
                    go_meet
                    exact ⟨by rw [E0.out, HPU.out, decide_eq_true hpt]; rfl, hb⟩
                  · have hpt2 := hpt
                    refine Agg.listR 19 (by kernel_rfl) ?_
                    simp only [List.take_succ_cons, List.take_zero, List.drop_succ_cons, List.drop_zero]
                    refine Agg.chMove rfl rfl rfl rfl ?_
                    refine Agg.chLt false (by simp; omega) rfl rfl rfl rfl rfl ?_
                    refine Agg.chMove rfl rfl rfl rfl ?_
                    refine Agg.chMove rfl rfl rfl rfl ?_
                    refine Agg.chGt false (by simp; omega) rfl rfl rfl rfl rfl ?_
                    refine Agg.chPick rfl rfl rfl rfl rfl ?_
                    refine Agg.chMove rfl rfl rfl rfl ?_
                    refine Agg.chMove rfl rfl rfl rfl ?_
                    refine Agg.chGt true (by simp) rfl rfl rfl rfl rfl ?_
                    refine Agg.chMove rfl rfl rfl rfl ?_
                    refine Agg.chMove rfl rfl rfl rfl ?_
                    refine Agg.chMove rfl rfl rfl rfl ?_
                    refine Agg.chAr64 rfl rfl rfl rfl (by omega) (by omega) rfl rfl ?_
                    refine Agg.chIA ti22 (by omega) (by omega) rfl rfl rfl rfl rfl ?_
                    refine Agg.chLoad rfl rfl rfl rfl (by decide +kernel) HC.out ?_
                    refine Agg.chMove rfl rfl rfl rfl ?_
                    refine Agg.chGe true (by simp; omega) rfl rfl rfl rfl rfl ?_
                    refine Agg.chPick rfl rfl rfl rfl rfl ?_
                    refine Agg.chPick rfl rfl rfl rfl rfl ?_
                    refine Agg.chEnd ?_
                    intro vs w41 hb hf
                    simp only [List.reverse, List.reverseAux, Agg.Facts] at hf
                    obtain _ := hf
                    simp only [List.reverse, List.reverseAux, Agg.fill, List.set_cons_succ, List.set_cons_zero]
                    go_wp2_with fail
                    go_meet
                    exact ⟨by rw [E0.out, HPU.out, decide_eq_false (show ¬ p < t by omega)]; rfl, hb⟩
          case rest =>
            obtain ⟨rfl, hwx⟩ := hcut
            replace HB := Lib.hid (HB.out.trans (hwx.mono HB.out.size))
            replace HL := Lib.hid (SlR.keep HL.out hwx)
            clear hwx
            cases hu : upAt l k
            · have hb : rb = false := HBK.out hu
              subst hb
              have HU := Lib.hid hu
              clear hu
              rw [show (!false) = true from rfl]
              go_wp2_with fail
              go_ret2
              exact ⟨_, rfl, by simp, HB.out⟩
            · have HU := Lib.hid hu
              clear hu
              rw [show (!true) = false from rfl]
              go_wp2_with fail
              exact ⟨⟨k + 1, by omega, by go_num, fun i hi => (Nat.lt_succ_iff_lt_or_eq.1 hi).elim (HUP.out i) (fun e => e ▸ HU.out), HB.out, HL.out⟩, by simp [intOf]; omega⟩
        · obtain rfl : k = l.length := by omega
          have hb : rb = true := by
            rw [← HRB.out]
            simp only [risingB, Bool.and_eq_true, decide_eq_true_eq, List.all_eq_true]
            exact ⟨⟨by omega, h256⟩, fun i hi => HUP.out i (List.mem_range.1 hi)⟩
          subst hb
          go_wp2_with fail
          refine (HLA.out wA HL.out HRB.out).mono ?_
          rintro e w1 ⟨u, rfl, h1, h2⟩
          have h1 := own_base h1 HB.out.size
          have h2 := HB.out.trans (h2.mono HB.out.size)
          obtain ⟨ux, uc, rfl, _, _⟩ := (ownSl h1).shape
          go_wp2_with fail
          go_ret2
          exact ⟨_, rfl, by simpa using h1, h2⟩
    · have hb : rb = false := by rw [← HRB.out]; simp [risingB, h256]
      subst hb
      have h256b : (l.length : Int) > 256 := by omega
      go_wp2_with fail
      go_ret2
      exact ⟨_, rfl, by simp, HB.out⟩
end Go.Proofs.Ytpligbfajnjklaa
