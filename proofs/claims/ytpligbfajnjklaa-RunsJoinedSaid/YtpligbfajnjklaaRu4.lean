/-
  THE WALKS OF LAYER 7 (runs): rises, which leaves by a panic that is caught.
-/
import Derived.Test.YtpligbfajnjklaaRu3
namespace Go.Proofs.Ytpligbfajnjklaa
open Go.ChangeShapes Go.WideShapes Go.ChangeAt Go.RowKit Agg Pg Ru

theorem rises_fail {Q : Ending → World → Prop} {W : World} {g : Nat} {x : Bool} {u : TypeId} {pv : Value} {tmps : Array Value} (hc : W.cell? ⟨g, 0, none⟩ = some (.bool x)) (hz : W.frozen? ⟨g, 0, none⟩ = false) (ht : tmps[2]? = some (.pointer (some ⟨g, 0, none⟩)))
    (h : Q (.returned (.bool false)) (W.setCell ⟨g, 0, none⟩ (.bool false))) :
    bodyPostD Try.prog Try.f37 Q (Exit.panic [{ v := .iface u pv, recovered := false }]) ⟨tmps, [{ target := .fn (.func 51) #[.pointer (some ⟨g, 0, none⟩)], args := #[] }]⟩ W := by
  show Leaves _ _ _ _ _ _ _
  refine leaves_cons (f := 51) (args := #[.pointer (some ⟨g, 0, none⟩)]) (by simp) (by simp [go_sem]) ?_
  refine (catch_panicking ⟨g, 0, none⟩ x u _ [] _ hc hz).mono ?_
  rintro e u' w'' ⟨rfl, rfl, rfl⟩
  have hcell : (W.setCell ⟨g, 0, none⟩ (.bool false)).cell? ⟨g, 0, none⟩ = some (.bool false) := World.cell?_setCell_same' _ _ _ (by rw [hc]; rfl)
  simp [Leaves, settle, results, Try.results37, go_sem, ht, hcell]
  exact h
theorem rises_end {Q : Ending → World → Prop} {W : World} {g : Nat} {b : Bool} {tmps : Array Value} (hc : W.cell? ⟨g, 0, none⟩ = some (.bool b)) (ht : tmps[2]? = some (.pointer (some ⟨g, 0, none⟩)))
    (h : Q (.returned (.bool b)) W) :
    bodyPostD Try.prog Try.f37 Q Exit.ret ⟨tmps, [{ target := .fn (.func 51) #[.pointer (some ⟨g, 0, none⟩)], args := #[] }]⟩ W := by
  show Leaves _ _ _ _ _ _ _
  refine leaves_cons (f := 51) (args := #[.pointer (some ⟨g, 0, none⟩)]) (by simp) (by simp [go_sem]) ?_
  refine (catch_idle ⟨g, 0, none⟩ _).mono ?_
  rintro e u' w'' ⟨rfl, rfl, rfl⟩
  simp [Leaves, settle, results, Try.results37, go_sem, ht, hc]
  exact h
theorem set_bel {w0 W : World} {g : Nat} {v : Value} (h : Below w0.heap.size w0 W) (hg : w0.heap.size ≤ g) : Below w0.heap.size w0 (W.setCell ⟨g, 0, none⟩ v) :=
  h.setCell hg v
theorem rises_bad {l : List Rn} {k : Nat} (hk : k < l.length) (h : okAt l k = false) : risesB l = false := by
  cases hr : risesB l with
  | false => rfl
  | true =>
    simp only [risesB, Bool.and_eq_true, List.all_eq_true] at hr
    have := hr.1.2 k (List.mem_range.2 hk)
    rw [h] at this; cases this
theorem many_snoc (l : List Rn) (k : Nat) (h : k < l.length) : many (l.take (k + 1)) = many (l.take k) + l[k].2.2 := by
  unfold many
  rw [List.take_succ_eq_append_getElem h, List.map_append, List.sum_append]; simp
theorem ti24 : TI Try.prog 24 31 3 24 (.agg #[.int .i64 0, .int .i64 0, .int .i64 0]) := ⟨by kernel_rfl, by kernel_rfl, rfl, by decide⟩
set_option maxHeartbeats 1000000 in
set_option maxRecDepth 100000 in
theorem rises_any (l : List Rn) (x : Option Addr) (cap : Nat) (w : World) (hl : Rus w (.slice x l.length cap) l) (hw : ∀ r ∈ l, Rw r) :
    Calls Try.prog 37 #[.slice x l.length cap] w fun e w' => e = .returned (.bool (risesB l)) ∧ Below w.heap.size w w' := by
  have HL := Lib.hid hl
  have HL0 := HL
  have HW := Lib.hid hw
  have hmf : ∀ (fn : Fn) (first cap : Array Value) (w : World), (Instr.makeFunc fn first cap).run Try.prog w = .ok (.func fn first cap) w := fun _ _ _ _ => rfl
  have HLN : Hid ((l.length : Int) ≤ 9223372036854775807) := Lib.hid (by have := hl.shape; obtain ⟨_, _, e, h1, h2⟩ := this; unfold maxLen at h2; omega)
  clear hl hw
  have HB := Lib.hid (Below.refl w.heap.size w)
  go_enter_defers Try.func37, Try.ntmps37
  by_cases h0 : 0 < l.length
  · by_cases h256 : l.length ≤ 256
    · have h0' : (0 : Int) < l.length := by omega
      have h1' : (l.length : Int) ≤ 256 := by omega
      go_wp2_with fail
      refine (sure_ok _).mono ?_
      rintro e w1 ⟨rfl, rfl⟩
      go_upto_region 3 with (fail)
      refine Agg.wp_at fun w1 hw1 => ?_
      have hb : Below w.heap.size w w1 := by rw [hw1.out]; repeat (first | exact Below.refl _ _ | refine Agg.bel_drew ?_ | refine Agg.bel_alloc ?_ _)
      replace HB := Lib.hid (HB.out.trans (hb.mono HB.out.size))
      replace HL := Lib.hid (HL.out.keep hb)
      clear hb
      have HG : Hid (Blk w1 w.heap.size 4 [.bool false]) := by show Blk _ _ _ _; rw [hw1.out]; exact Blk.new w 4 #[.bool false]
      clear hw1
      go_wp2_with fail
      go_loopw [3, 19] (fun m i wr => ∃ k : Nat, k ≤ l.length ∧ i = .int .i64 k ∧ m = .int .i64 (many (l.take k)) ∧ (0 ≤ many (l.take k) ∧ many (l.take k) ≤ 256 * (k : Int)) ∧ (∀ j, j < k → okAt l j = true) ∧ Below w.heap.size w wr ∧ Rus wr (.slice x l.length cap) l ∧ Blk wr w.heap.size 4 [.bool false]) (fun _ i _ => l.length - (intOf i).toNat)
      case atStart => exact ⟨0, by omega, rfl, rfl, by simp [many], fun j hj => absurd hj (by omega), HB.out, HL.out, HG.out⟩
      case round =>
        obtain ⟨k, hk, rfl, rfl, hmk, hok, hb, h1, h2⟩ := hrel
        replace HB := Lib.hid hb
        replace HL := Lib.hid h1
        replace HG := Lib.hid h2
        have HOKS := Lib.hid hok
        obtain ⟨hm0, hm1⟩ := hmk
        clear hb h1 h2 hok
        obtain ⟨wA, hwA⟩ : ∃ x, x = wr := ⟨_, rfl⟩
        subst hwA
        by_cases hlt : k < l.length
        · have HSN := Lib.hid (many_snoc l k hlt)
          have HBAD : Hid (okAt l k = false → risesB l = false) := Lib.hid (rises_bad hlt)
          have HWR := Lib.hid (HW.out l[k] (List.getElem_mem hlt))
          have hok : okAt l k = (sized l[k] && fine (decide (k + 1 = l.length)) l[k] && nextAt l k l[k]) := by
            unfold okAt; rw [List.getElem?_eq_getElem hlt]
          have HOK := Lib.hid hok
          clear hok
          obtain ⟨b, o, cap', hve, _, _, hcm, _⟩ := SlR.pos HL.out (by decide) (by omega)
          simp only [Value.slice.injEq, true_and] at hve
          obtain ⟨rfl, rfl⟩ := hve
          have hrow := flat_at ruC 3 (by decide) HL.out (fun b hb => rfl) hlt
          clear hcm
          obtain ⟨r, hr⟩ : ∃ r, l[k] = r := ⟨_, rfl⟩
          rw [hr] at HSN HWR HOK hrow
          have HRE := Lib.hid hr
          clear hr
          generalize many (l.take k) = mk at *
          clear hmf
          obtain ⟨a, s, c⟩ := r
          obtain ⟨⟨ia1, ia2⟩, ⟨is1, is2⟩, ⟨ic1, ic2⟩⟩ := HWR.out
          simp only at ia1 ia2 is1 is2 ic1 ic2
          go_upto_region 7 with (refine Agg.gLoad 3 [.int .i64 a, .int .i64 s, .int .i64 c] rfl rfl rfl (by decide +kernel) rfl hrow ?_; simp only [Act.put, List.setIfInBounds_toArray, List.set_cons_succ, List.set_cons_zero])
          refine Agg.wp_at fun w21 hw21 => ?_
          have hb : Below wA.heap.size wA w21 := by rw [hw21.out]; repeat (first | exact Below.refl _ _ | refine Agg.bel_drew ?_ | refine Agg.bel_alloc ?_ _)
          replace HB := Lib.hid (HB.out.trans (hb.mono HB.out.size))
          replace HL := Lib.hid (HL.out.keep hb)
          replace HG := Lib.hid (HG.out.keep hb)
          clear hb
          have H5 : Hid (Blk w21 wA.heap.size 31 [.int .i64 a, .int .i64 s, .int .i64 c]) := by show Blk _ _ _ _; rw [hw21.out]; exact Blk.new wA 31 #[.int .i64 a, .int .i64 s, .int .i64 c]
          clear hw21 hrow
          generalize wA.heap.size = g5 at *
          have xH5_0 := H5.out.cell 0
          have xH5_1 := H5.out.cell 1
          have xH5_2 := H5.out.cell 2
          have lH5 := H5.out.lt
          simp only [List.getElem?_cons_zero, List.getElem?_cons_succ] at xH5_0 xH5_1 xH5_2
          by_cases c1 : 1 ≤ c
          rotate_left
          · have hz : sized (a, s, c) = false := by
              cases hq : sized (a, s, c) with
              | false => rfl
              | true => have := (sized_iff _).1 hq; unfold maxT at this; simp only at this; omega
            go_wp2_with fail
            refine (sure_no _).mono ?_
            rintro e w1 ⟨rfl, rfl⟩
            go_wp2_with fail
            exact rises_fail (x := false) (HG.out.cell 0) (HG.out.frozen 0) rfl ⟨by rw [HBAD.out (by rw [HOK.out, hz]; rfl)], set_bel HB.out (Nat.le_refl _)⟩
          by_cases c2 : c ≤ 256
          rotate_left
          · have hz : sized (a, s, c) = false := by
              cases hq : sized (a, s, c) with
              | false => rfl
              | true => have := (sized_iff _).1 hq; unfold maxT at this; simp only at this; omega
            go_wp2_with fail
            refine (sure_no _).mono ?_
            rintro e w1 ⟨rfl, rfl⟩
            go_wp2_with fail
            exact rises_fail (x := false) (HG.out.cell 0) (HG.out.frozen 0) rfl ⟨by rw [HBAD.out (by rw [HOK.out, hz]; rfl)], set_bel HB.out (Nat.le_refl _)⟩
          by_cases c3 : 0 ≤ a
          rotate_left
          · have hz : sized (a, s, c) = false := by
              cases hq : sized (a, s, c) with
              | false => rfl
              | true => have := (sized_iff _).1 hq; unfold maxT at this; simp only at this; omega
            go_wp2_with fail
            refine (sure_no _).mono ?_
            rintro e w1 ⟨rfl, rfl⟩
            go_wp2_with fail
            exact rises_fail (x := false) (HG.out.cell 0) (HG.out.frozen 0) rfl ⟨by rw [HBAD.out (by rw [HOK.out, hz]; rfl)], set_bel HB.out (Nat.le_refl _)⟩
          by_cases c4 : a ≤ 281474976710656
          rotate_left
          · have hz : sized (a, s, c) = false := by
              cases hq : sized (a, s, c) with
              | false => rfl
              | true => have := (sized_iff _).1 hq; unfold maxT at this; simp only at this; omega
            go_wp2_with fail
            refine (sure_no _).mono ?_
            rintro e w1 ⟨rfl, rfl⟩
            go_wp2_with fail
            exact rises_fail (x := false) (HG.out.cell 0) (HG.out.frozen 0) rfl ⟨by rw [HBAD.out (by rw [HOK.out, hz]; rfl)], set_bel HB.out (Nat.le_refl _)⟩
          by_cases c5 : 0 ≤ s
          rotate_left
          · have hz : sized (a, s, c) = false := by
              cases hq : sized (a, s, c) with
              | false => rfl
              | true => have := (sized_iff _).1 hq; unfold maxT at this; simp only at this; omega
            go_wp2_with fail
            refine (sure_no _).mono ?_
            rintro e w1 ⟨rfl, rfl⟩
            go_wp2_with fail
            exact rises_fail (x := false) (HG.out.cell 0) (HG.out.frozen 0) rfl ⟨by rw [HBAD.out (by rw [HOK.out, hz]; rfl)], set_bel HB.out (Nat.le_refl _)⟩
          by_cases c6 : s ≤ 281474976710656
          rotate_left
          · have hz : sized (a, s, c) = false := by
              cases hq : sized (a, s, c) with
              | false => rfl
              | true => have := (sized_iff _).1 hq; unfold maxT at this; simp only at this; omega
            go_wp2_with fail
            refine (sure_no _).mono ?_
            rintro e w1 ⟨rfl, rfl⟩
            go_wp2_with fail
            exact rises_fail (x := false) (HG.out.cell 0) (HG.out.frozen 0) rfl ⟨by rw [HBAD.out (by rw [HOK.out, hz]; rfl)], set_bel HB.out (Nat.le_refl _)⟩
          have hs : sized (a, s, c) = true := (sized_iff _).2 ⟨c1, c2, c3, c4, c5, c6⟩
          have HSZ := Lib.hid hs
          have HLB := Lib.hid (sized_last hs)
          clear hs
          go_wp2_with fail
          refine (sure_ok _).mono ?_
          rintro e w1 ⟨rfl, rfl⟩
          go_upto_region 8 with (fail)
          go_cut [] from 53 to 77 (fun wx => fine (decide (k + 1 = l.length)) (a, s, c) = true ∧ Below w.heap.size w wx ∧ Rus wx (.slice (some ⟨b, o, none⟩) l.length cap) l ∧ Blk wx w.heap.size 4 [.bool false] ∧ Blk wx g5 31 [.int .i64 a, .int .i64 s, .int .i64 c])
          case first =>
            by_cases d1 : c = 1
            · have d1b : (c == 1) = true := by simp [d1]
              have d1c : ¬ (1 : Int) < c := by omega
              have D1 := Lib.hid d1
              clear d1
              by_cases d2 : s = 0
              · have d2b : (s == 0) = true := by simp [d2]
                have D2 := Lib.hid d2
                clear d2
                by_cases d3 : k + 1 = l.length
                · have d3b : ((k : Int) == (l.length : Int) - 1) = true := by simp; omega
                  have D3 := Lib.hid d3
                  clear d3
                  go_wp2_with fail
                  clear xH5_0 xH5_1 xH5_2 lH5
                  refine (last_any (a, s, c) HSZ.out w21).mono ?_
                  rintro e w22 ⟨rfl, hb⟩
                  replace HB := Lib.hid (HB.out.trans (hb.mono HB.out.size))
                  replace HL := Lib.hid (HL.out.keep hb)
                  replace HG := Lib.hid (HG.out.keep hb)
                  replace H5 := Lib.hid (H5.out.keep hb)
                  clear hb
                  obtain ⟨z, hz0⟩ : ∃ z, last (a, s, c) = z := ⟨_, rfl⟩
                  rw [hz0]
                  have HZ := Lib.hid hz0
                  clear hz0
                  by_cases hlz : z ≤ 281474976710656
                  · go_wp2_with fail
                    refine (sure_ok _).mono ?_
                    rintro e w1 ⟨rfl, rfl⟩
                    go_wp2_with fail
                    go_meet
                    exact ⟨(fine_iff _ _).2 ⟨by (try have e1 := D1.out); (try have e2 := D2.out); (try have e3 := D3.out); simp only; omega, by (try have e1 := D1.out); (try have e2 := D2.out); (try have e3 := D3.out); simp only [decide_eq_true_eq]; omega, by rw [HZ.out]; exact hlz⟩, HB.out, HL.out, HG.out, H5.out⟩
                  · have hlzb : decide (z ≤ 281474976710656) = false := by simp; omega
                    have hz : fine (decide (k + 1 = l.length)) (a, s, c) = false := by
                      cases hq : fine (decide (k + 1 = l.length)) (a, s, c) with
                      | false => rfl
                      | true => have := (fine_iff _ _).1 hq; simp only [decide_eq_true_eq] at this; rw [HZ.out] at this; unfold maxT at this; (try have e1 := D1.out); (try have e2 := D2.out); (try have e3 := D3.out); omega
                    go_wp2_with fail
                    refine (sure_no _).mono ?_
                    rintro e w1 ⟨rfl, rfl⟩
                    go_wp2_with fail
                    exact rises_fail (x := false) (HG.out.cell 0) (HG.out.frozen 0) rfl ⟨by rw [HBAD.out (by rw [HOK.out, hz]; simp)], set_bel HB.out (Nat.le_refl _)⟩
                · have d3b : ((k : Int) == (l.length : Int) - 1) = false := by simp; omega
                  have hz : fine (decide (k + 1 = l.length)) (a, s, c) = false := by
                    cases hq : fine (decide (k + 1 = l.length)) (a, s, c) with
                    | false => rfl
                    | true => have := (fine_iff _ _).1 hq; simp only [decide_eq_true_eq] at this; (try have e1 := D1.out); (try have e2 := D2.out); (try have e3 := D3.out); omega
                  go_wp2_with fail
                  refine (sure_no _).mono ?_
                  rintro e w1 ⟨rfl, rfl⟩
                  go_wp2_with fail
                  exact rises_fail (x := false) (HG.out.cell 0) (HG.out.frozen 0) rfl ⟨by rw [HBAD.out (by rw [HOK.out, hz]; simp)], set_bel HB.out (Nat.le_refl _)⟩
              · have d2b : (s == 0) = false := by simp [d2]
                have hz : fine (decide (k + 1 = l.length)) (a, s, c) = false := by
                  cases hq : fine (decide (k + 1 = l.length)) (a, s, c) with
                  | false => rfl
                  | true => have := (fine_iff _ _).1 hq; simp only [decide_eq_true_eq] at this; (try have e1 := D1.out); (try have e2 := D2.out); (try have e3 := D3.out); omega
                go_wp2_with fail
                refine (sure_no _).mono ?_
                rintro e w1 ⟨rfl, rfl⟩
                go_wp2_with fail
                exact rises_fail (x := false) (HG.out.cell 0) (HG.out.frozen 0) rfl ⟨by rw [HBAD.out (by rw [HOK.out, hz]; simp)], set_bel HB.out (Nat.le_refl _)⟩
            · have d1b : (c == 1) = false := by simp [d1]
              by_cases d2 : s = 0
              · have d2b : (s == 0) = true := by simp [d2]
                have D2 := Lib.hid d2
                clear d2
                have hz : fine (decide (k + 1 = l.length)) (a, s, c) = false := by
                  cases hq : fine (decide (k + 1 = l.length)) (a, s, c) with
                  | false => rfl
                  | true => have := (fine_iff _ _).1 hq; simp only [decide_eq_true_eq] at this; (try have e1 := D1.out); (try have e2 := D2.out); (try have e3 := D3.out); omega
                go_wp2_with fail
                refine (sure_no _).mono ?_
                rintro e w1 ⟨rfl, rfl⟩
                go_wp2_with fail
                exact rises_fail (x := false) (HG.out.cell 0) (HG.out.frozen 0) rfl ⟨by rw [HBAD.out (by rw [HOK.out, hz]; simp)], set_bel HB.out (Nat.le_refl _)⟩
              · have d2b : (s == 0) = false := by simp [d2]
                have d4 : (1 : Int) < c := by omega
                go_wp2_with fail
                clear xH5_0 xH5_1 xH5_2 lH5
                refine (last_any (a, s, c) HSZ.out w21).mono ?_
                rintro e w23 ⟨rfl, hb⟩
                replace HB := Lib.hid (HB.out.trans (hb.mono HB.out.size))
                replace HL := Lib.hid (HL.out.keep hb)
                replace HG := Lib.hid (HG.out.keep hb)
                replace H5 := Lib.hid (H5.out.keep hb)
                clear hb
                obtain ⟨z, hz0⟩ : ∃ z, last (a, s, c) = z := ⟨_, rfl⟩
                rw [hz0]
                have HZ := Lib.hid hz0
                clear hz0
                by_cases hlz : z ≤ 281474976710656
                · go_wp2_with fail
                  refine (sure_ok _).mono ?_
                  rintro e w1 ⟨rfl, rfl⟩
                  go_wp2_with fail
                  go_meet
                  exact ⟨(fine_iff _ _).2 ⟨by (try have e1 := D1.out); (try have e2 := D2.out); (try have e3 := D3.out); simp only; omega, by (try have e1 := D1.out); (try have e2 := D2.out); (try have e3 := D3.out); simp only [decide_eq_true_eq]; omega, by rw [HZ.out]; exact hlz⟩, HB.out, HL.out, HG.out, H5.out⟩
                · have hlzb : decide (z ≤ 281474976710656) = false := by simp; omega
                  have hz : fine (decide (k + 1 = l.length)) (a, s, c) = false := by
                    cases hq : fine (decide (k + 1 = l.length)) (a, s, c) with
                    | false => rfl
                    | true => have := (fine_iff _ _).1 hq; simp only [decide_eq_true_eq] at this; rw [HZ.out] at this; unfold maxT at this; (try have e1 := D1.out); (try have e2 := D2.out); (try have e3 := D3.out); omega
                  go_wp2_with fail
                  refine (sure_no _).mono ?_
                  rintro e w1 ⟨rfl, rfl⟩
                  go_wp2_with fail
                  exact rises_fail (x := false) (HG.out.cell 0) (HG.out.frozen 0) rfl ⟨by rw [HBAD.out (by rw [HOK.out, hz]; simp)], set_bel HB.out (Nat.le_refl _)⟩
          case rest =>
            obtain ⟨hfn, hb, h1, h2, h3⟩ := hcut
            clear HB HL HG H5
            have HFN := Lib.hid hfn
            have HB := Lib.hid hb
            have HL := Lib.hid h1
            have HG := Lib.hid h2
            have H5 := Lib.hid h3
            clear hfn hb h1 h2 h3
            go_upto_if 79 with (fail)
            go_cut [6] from 80 to 101 (fun v wx => nextAt l k (a, s, c) = true ∧ Below w.heap.size w wx ∧ Rus wx (.slice (some ⟨b, o, none⟩) l.length cap) l ∧ Blk wx w.heap.size 4 [.bool false] ∧ Blk wx g5 31 [.int .i64 a, .int .i64 s, .int .i64 c])
            case first =>
              by_cases hk0 : k = 0
              · subst hk0
                go_wp2_with fail
                go_meet
                exact ⟨rfl, HB.out, HL.out, HG.out, H5.out⟩
              · obtain ⟨j, rfl⟩ : ∃ j, k = j + 1 := ⟨k - 1, by omega⟩
                have hj : j < l.length := by omega
                have hpj := HOKS.out j (by omega)
                unfold okAt at hpj
                rw [List.getElem?_eq_getElem hj] at hpj
                simp only [Bool.and_eq_true] at hpj
                obtain ⟨⟨hps, hpf⟩, _⟩ := hpj
                have hnx : nextAt l (j + 1) (a, s, c) = next l[j] (a, s, c) := by unfold nextAt; simp only [List.getElem?_eq_getElem hj]
                have HNX := Lib.hid hnx
                have hrp : ∀ W, Rus W (.slice (some ⟨b, o, none⟩) l.length cap) l → ∀ i v, (ruC l[j])[i]? = some v → W.cell? ⟨b, o + (((j + 1 : Nat) : Int) - 1).toNat * 3 + i, none⟩ = some v := fun W h i v hv => by
                  have h2 := flat_at ruC 3 (by decide) h (fun b hb => rfl) hj i v hv
                  rw [Int.toNat_natCast] at h2
                  rw [show (((j + 1 : Nat) : Int) - 1).toNat = j by omega]; exact h2
                have HRP := Lib.hid hrp
                have HPS := Lib.hid hps
                have HPB := Lib.hid (sized_last hps)
                have hpl := ((fine_iff _ _).1 hpf).2.2
                have hp0 := (sized_iff _).1 hps
                have hpb := sized_last hps
                clear hrp hpf hps hnx
                obtain ⟨p, hp⟩ : ∃ p, l[j] = p := ⟨_, rfl⟩
                rw [hp] at HRP HPS HPB HNX hpl hp0 hpb
                clear hp
                obtain ⟨z, hz⟩ : ∃ z, last p = z := ⟨_, rfl⟩
                have hz0 : 0 ≤ z ∧ z ≤ 281474976710656 := by unfold maxT at hpl hp0; rw [← hz]; unfold last at hpl ⊢; omega
                have HZ := Lib.hid hz
                obtain ⟨hz1, hz2⟩ := hz0
                clear hz hpl hp0 hpb
                have hrw := HRP.out wc HL.out
                have HRW := Lib.hid hrw
                clear hrw
                go_upto_region 10 with (fail)
                refine Agg.chainR 10 (by kernel_rfl) (by kernel_rfl) ?_
                simp only [List.take_succ_cons, List.take_zero, List.drop_succ_cons, List.drop_zero]
                refine Agg.chFA fo_fo_Run_0 rfl rfl rfl rfl ?_
                refine Agg.chLoadB H5.out (by decide +kernel) rfl rfl (by rfl) rfl rfl ?_
                refine Agg.chMove rfl rfl rfl rfl ?_
                refine Agg.chMove rfl rfl rfl rfl ?_
                refine Agg.chAr64 rfl rfl rfl rfl (by omega) (by omega) rfl rfl ?_
                refine Agg.chIA ti24 (by omega) (by omega) rfl rfl rfl rfl rfl ?_
                refine Agg.chRowAt 3 (ruC p) rfl (by decide +kernel) rfl rfl rfl rfl HRW.out ?_
                refine Agg.chCall Try.func48 rfl (by kernel_rfl) rfl rfl rfl rfl (fun W hb => by have h := last_any p HPS.out W; rw [HZ.out] at h; exact h) ?_
                refine Agg.chAr64 rfl rfl rfl rfl (by omega) (by omega) rfl rfl ?_
                refine Agg.chAssign rfl rfl rfl rfl ?_
                refine Agg.chEnd ?_
                intro vs w61 hb _
                refine Agg.wpNil ?_
                simp only [List.reverse, List.reverseAux, Agg.fill, List.set_cons_succ, List.set_cons_zero]
                replace HB := Lib.hid (HB.out.trans (hb.mono HB.out.size))
                replace HL := Lib.hid (HL.out.keep hb)
                replace HG := Lib.hid (HG.out.keep hb)
                replace H5 := Lib.hid (H5.out.keep hb)
                clear hb
                have hrw := HRP.out w61 HL.out
                have HST : Hid (w61.cell? ⟨b, o + (((j + 1 : Nat) : Int) - 1).toNat * 3 + 1, none⟩ = some (.int .i64 p.2.1)) := Lib.hid (hrw 1 _ rfl)
                clear hrw
                go_upto_region 11 with (fail)
                by_cases hgap : 0 < a - z
                · by_cases heq : a - z = p.2.1
                  · refine Agg.listR 12 (by kernel_rfl) ?_
                    simp only [List.take_succ_cons, List.take_zero, List.drop_succ_cons, List.drop_zero]
                    refine Agg.chMove rfl rfl rfl rfl ?_
                    refine Agg.chGt true (by simpa using hgap) rfl rfl rfl rfl rfl ?_
                    refine Agg.chMove rfl rfl rfl rfl ?_
                    refine Agg.chMove rfl rfl rfl rfl ?_
                    refine Agg.chMove rfl rfl rfl rfl ?_
                    refine Agg.chMove rfl rfl rfl rfl ?_
                    refine Agg.chAr64 rfl rfl rfl rfl (by omega) (by omega) rfl rfl ?_
                    refine Agg.chIA ti24 (by omega) (by omega) rfl rfl rfl rfl rfl ?_
                    refine Agg.chFA fo_fo_Run_1 rfl rfl rfl rfl ?_
                    refine Agg.chLoad rfl rfl rfl rfl (by decide +kernel) HST.out ?_
                    refine Agg.chNe false (by simpa using heq) rfl rfl rfl rfl rfl ?_
                    refine Agg.chPick rfl rfl rfl rfl rfl ?_
                    refine Agg.chEnd ?_
                    intro vs w62 hb hf
                    simp only [List.reverse, List.reverseAux, Agg.Facts] at hf
                    obtain _ := hf
                    simp only [List.reverse, List.reverseAux, Agg.fill, List.set_cons_succ, List.set_cons_zero]
                    have HGk := HG.out.keep hb
                    have hbk := HB.out.trans (hb.mono HB.out.size)
                    have hzn : nextAt l (j + 1) (a, s, c) = false := by
                      rw [HNX.out]
                      cases hq : next p (a, s, c) with
                      | false => rfl
                      | true => have := (next_iff _ _).1 hq; rw [HZ.out] at this; simp only at this; omega
                    go_wp2_with fail
                    refine (sure_no _).mono ?_
                    rintro e w1 ⟨rfl, rfl⟩
                    go_wp2_with fail
                    exact rises_fail (x := false) (HGk.cell 0) (HGk.frozen 0) rfl ⟨by rw [HBAD.out (by rw [HOK.out, hzn]; simp)], set_bel hbk (Nat.le_refl _)⟩
                  · replace hgap := hgap
                    refine Agg.listR 12 (by kernel_rfl) ?_
                    simp only [List.take_succ_cons, List.take_zero, List.drop_succ_cons, List.drop_zero]
                    refine Agg.chMove rfl rfl rfl rfl ?_
                    refine Agg.chGt true (by simpa using hgap) rfl rfl rfl rfl rfl ?_
                    refine Agg.chMove rfl rfl rfl rfl ?_
                    refine Agg.chMove rfl rfl rfl rfl ?_
                    refine Agg.chMove rfl rfl rfl rfl ?_
                    refine Agg.chMove rfl rfl rfl rfl ?_
                    refine Agg.chAr64 rfl rfl rfl rfl (by omega) (by omega) rfl rfl ?_
                    refine Agg.chIA ti24 (by omega) (by omega) rfl rfl rfl rfl rfl ?_
                    refine Agg.chFA fo_fo_Run_1 rfl rfl rfl rfl ?_
                    refine Agg.chLoad rfl rfl rfl rfl (by decide +kernel) HST.out ?_
                    refine Agg.chNe true (by simpa using heq) rfl rfl rfl rfl rfl ?_
                    refine Agg.chPick rfl rfl rfl rfl rfl ?_
                    refine Agg.chEnd ?_
                    intro vs w63 hb hf
                    simp only [List.reverse, List.reverseAux, Agg.Facts] at hf
                    obtain _ := hf
                    simp only [List.reverse, List.reverseAux, Agg.fill, List.set_cons_succ, List.set_cons_zero]
                    have HGk := HG.out.keep hb
                    have hbk := HB.out.trans (hb.mono HB.out.size)
                    have HLk := SlR.keep HL.out hb
                    have H5k := H5.out.keep hb
                    go_wp2_with fail
                    refine (sure_ok _).mono ?_
                    rintro e w1 ⟨rfl, rfl⟩
                    go_wp2_with fail
                    go_meet
                    exact ⟨by rw [HNX.out]; exact (next_iff _ _).2 ⟨by rw [HZ.out]; simp only; omega, by rw [HZ.out]; exact heq⟩, hbk, HLk, HGk, H5k⟩
                · replace hgap := hgap
                  refine Agg.listR 12 (by kernel_rfl) ?_
                  simp only [List.take_succ_cons, List.take_zero, List.drop_succ_cons, List.drop_zero]
                  refine Agg.chMove rfl rfl rfl rfl ?_
                  refine Agg.chGt false (by simpa using hgap) rfl rfl rfl rfl rfl ?_
                  refine Agg.chMove rfl rfl rfl rfl ?_
                  refine Agg.chSkip rfl rfl ?_
                  refine Agg.chSkip rfl rfl ?_
                  refine Agg.chSkip rfl rfl ?_
                  refine Agg.chSkip rfl rfl ?_
                  refine Agg.chSkip rfl rfl ?_
                  refine Agg.chSkip rfl rfl ?_
                  refine Agg.chSkip rfl rfl ?_
                  refine Agg.chSkip rfl rfl ?_
                  refine Agg.chPick rfl rfl rfl rfl rfl ?_
                  refine Agg.chEnd ?_
                  intro vs w64 hb hf
                  simp only [List.reverse, List.reverseAux, Agg.Facts] at hf
                  obtain _ := hf
                  simp only [List.reverse, List.reverseAux, Agg.fill, List.set_cons_succ, List.set_cons_zero]
                  have HGk := HG.out.keep hb
                  have hbk := HB.out.trans (hb.mono HB.out.size)
                  have hzn : nextAt l (j + 1) (a, s, c) = false := by
                    rw [HNX.out]
                    cases hq : next p (a, s, c) with
                    | false => rfl
                    | true => have := (next_iff _ _).1 hq; rw [HZ.out] at this; simp only at this; omega
                  go_wp2_with fail
                  refine (sure_no _).mono ?_
                  rintro e w1 ⟨rfl, rfl⟩
                  go_wp2_with fail
                  exact rises_fail (x := false) (HGk.cell 0) (HGk.frozen 0) rfl ⟨by rw [HBAD.out (by rw [HOK.out, hzn]; simp)], set_bel hbk (Nat.le_refl _)⟩
            case rest =>
              obtain ⟨hnx, hb, h1, h2, h3⟩ := hcut
              clear HB HL HG H5
              have HB := Lib.hid hb
              have HL := Lib.hid h1
              have HG := Lib.hid h2
              have H5 := Lib.hid h3
              have hokk : okAt l k = true := by rw [HOK.out, HSZ.out, HFN.out, hnx]; rfl
              have HKK := Lib.hid hokk
              clear hb h1 h2 h3 hnx hokk
              have hsum : many (l.take (k + 1)) = mk + c := HSN.out
              have HSUM := Lib.hid hsum
              clear hsum
              have xH5_0 := H5.out.cell 0
              have xH5_1 := H5.out.cell 1
              have xH5_2 := H5.out.cell 2
              have lH5 := H5.out.lt
              simp only [List.getElem?_cons_zero, List.getElem?_cons_succ] at xH5_0 xH5_1 xH5_2
              go_wp2_with fail
              exact ⟨⟨k + 1, by omega, by go_num, by rw [HSUM.out], by rw [HSUM.out]; constructor <;> omega, fun i hi => (Nat.lt_succ_iff_lt_or_eq.1 hi).elim (HOKS.out i) (fun e => e ▸ HKK.out), HB.out, HL.out, HG.out⟩, by simp [intOf]; omega⟩
        · obtain rfl : k = l.length := by omega
          have hrs : risesB l = decide (many l ≤ 256) := by
            unfold risesB
            have h1 : (List.range l.length).all (okAt l) = true := by rw [List.all_eq_true]; exact fun i hi => HOKS.out i (List.mem_range.1 hi)
            rw [h1, decide_eq_true (show 1 ≤ l.length from h0), decide_eq_true h256]; simp
          rw [List.take_length] at hm0 hm1 ⊢
          have HRS := Lib.hid hrs
          clear hrs hmf
          generalize many l = mk at *
          by_cases hmm : mk ≤ 256
          · have hb0 : decide (mk ≤ 256) = true := by simp; omega
            have hg := HG.out
            rw [hb0] at HRS
            go_wp2_with (refine Agg.gStoreCell 0 (.bool true) hg rfl rfl rfl rfl rfl (by kernel_rfl) rfl (by simp) rfl (fun w12 hb12 hg12 => ?_))
            have hc12 : w12.cell? ⟨w.heap.size, 0, none⟩ = some (.bool true) := hb12.cell 0
            exact rises_end hc12 rfl ⟨by rw [HRS.out], HB.out.trans (grown_below hg12 HB.out.size (fun j hj => (by cases hj; exact Nat.le_refl _)))⟩
          · have hb0 : decide (mk ≤ 256) = false := by simp; omega
            have hg := HG.out
            rw [hb0] at HRS
            go_wp2_with (refine Agg.gStoreCell 0 (.bool false) hg rfl rfl rfl rfl rfl (by kernel_rfl) rfl (by simp) rfl (fun w12 hb12 hg12 => ?_))
            have hc12 : w12.cell? ⟨w.heap.size, 0, none⟩ = some (.bool false) := hb12.cell 0
            exact rises_end hc12 rfl ⟨by rw [HRS.out], HB.out.trans (grown_below hg12 HB.out.size (fun j hj => (by cases hj; exact Nat.le_refl _)))⟩
    · have h0' : (0 : Int) < l.length := by omega
      have h1' : ¬ (l.length : Int) ≤ 256 := by omega
      go_wp2_with fail
      refine (sure_no _).mono ?_
      rintro e w1 ⟨rfl, rfl⟩
      go_wp2_with fail
      refine rises_fail (x := false) (by simp [go_sem]) (by simp [go_sem]) rfl ⟨?_, ?_⟩
      · have : risesB l = false := by simp [risesB, h256]
        rw [this]
      · exact set_bel (bel_alloc HB.out _) (Nat.le_refl _)
  · have hlz : l = [] := List.eq_nil_of_length_eq_zero (by omega)
    subst hlz
    go_wp2_with fail
    refine (sure_no _).mono ?_
    rintro e w1 ⟨rfl, rfl⟩
    go_wp2_with fail
    refine rises_fail (x := false) (by simp [go_sem]) (by simp [go_sem]) rfl ⟨rfl, ?_⟩
    exact set_bel (bel_alloc HB.out _) (Nat.le_refl _)
end Go.Proofs.Ytpligbfajnjklaa
