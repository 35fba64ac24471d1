/-
  THE WALKS OF LAYER 8 (pmc): Check, longest.
-/
import Derived.ScopeJumps
import Derived.Test.YtchpkgneloiidaaOpen
import Derived.Test.YtchpkgneloiidaaGood2
section
namespace Go.Proofs.Ytchpkgneloiidaa
open Go.ChangeShapes Go.WideShapes Go.ChangeAt Go.RowKit Agg Pg Pm

theorem chk_step (l : List Bd) (k : Nat) (h : k < l.length) (p : Int) : chk p (l.drop k) = (okBd p l[k] && chk l[k].1 (l.drop (k + 1))) := by
  rw [List.drop_eq_getElem_cons h]; rfl
set_option maxHeartbeats 4000000 in
set_option maxRecDepth 100000 in
theorem chkB_any (l : List Bd) (v : Value) (w : World) (hl : Bds w v l) (q : Bool) (hq : checkB l = q) :
    Calls Try.prog 15 #[v] w fun e w' => e = .returned (.int .i64 (if q then 0 else 180)) ∧ Below w.heap.size w w' := by
  obtain ⟨x, cap, rfl, _⟩ := SlR.shape hl
  have HL0 := Lib.hid hl
  have hln := (Bds.len hl).2
  have HQ := Lib.hid hq
  clear hl hq
  have HB := Lib.hid (Below.refl w.heap.size w)
  go_enter Try.func15, Try.ntmps15
  by_cases h0 : l.length = 0
  · have h0b : ((l.length : Int) == 0) = true := by simp [h0]
    obtain rfl : q = false := by rw [← HQ.out]; simp [checkB, h0]
    clear h0
    go_wp2_with fail
    go_ret
    exact ⟨rfl, HB.out⟩
  · have h0b : ((l.length : Int) == 0) = false := by simpa using h0
    by_cases h256 : l.length > 256
    · have h2b : (l.length : Int) > 256 := by omega
      obtain rfl : q = false := by rw [← HQ.out]; simp [checkB]; intro _ h; omega
      go_wp2_with fail
      go_ret
      exact ⟨rfl, HB.out⟩
    · have h2b : ¬ (l.length : Int) > 256 := by omega
      have hqc : chk (-1) l = q := by
        rw [← HQ.out]; unfold checkB
        rw [decide_eq_true (show 1 ≤ l.length by omega), decide_eq_true (show l.length ≤ 256 by omega)]; rfl
      have HQC := Lib.hid hqc
      clear hqc HQ
      go_wp2_with fail
      go_loopw [3, 16] (fun s3 ix wr => ∃ (k : Nat) (p : Int), k ≤ l.length ∧ ix = .int .i64 k ∧ s3 = .int .i64 p ∧ chk p (l.drop k) = q ∧ Below w.heap.size w wr) (fun _ ix _ => l.length - (intOf ix).toNat)
      case atStart => exact ⟨0, -1, by omega, rfl, rfl, by simpa using HQC.out, HB.out⟩
      case round =>
        obtain ⟨k, p, hk, rfl, rfl, hc, hb⟩ := hrel
        have HC := Lib.hid hc
        replace HB := Lib.hid hb
        have HL := Lib.hid (SlR.keep HL0.out hb)
        clear hc hb HQC
        obtain ⟨wA, hwA⟩ : ∃ x, x = wr := ⟨_, rfl⟩
        subst hwA
        by_cases hlt : k < l.length
        · have hst := chk_step l k hlt p
          rw [HC.out] at hst
          obtain ⟨b, o, cap', hve, _, _, _, _⟩ := SlR.pos HL.out (by decide) (by omega)
          simp only [Value.slice.injEq, true_and] at hve
          obtain ⟨rfl, rfl⟩ := hve
          have hrow := flat_at bdC 3 (by decide) HL.out (fun b hb => rfl) hlt
          obtain ⟨r, hr⟩ : ∃ r, l[k]'hlt = r := ⟨_, rfl⟩
          rw [hr] at hrow hst
          clear hr
          obtain ⟨t, lo, hi⟩ := r
          simp only at hst
          have HST := Lib.hid hst
          clear hst HC
          go_upto_region 7 with (first
            | (refine Agg.gLoad 3 [.int .i64 t, .int .i64 lo, .int .i64 hi] rfl rfl rfl (by decide +kernel) rfl hrow ?_; simp only [Act.put, List.setIfInBounds_toArray, List.set_cons_succ, List.set_cons_zero])
            | (refine Agg.allocRow 36 #[.int .i64 0, .int .i64 0, .int .i64 0] rfl rfl (by kernel_rfl) ?_; simp only [Act.put, List.setIfInBounds_toArray, List.set_cons_succ, List.set_cons_zero])
            | (refine Agg.gStoreNew 3 [.int .i64 t, .int .i64 lo, .int .i64 hi] rfl rfl rfl rfl rfl rfl (by decide +kernel) rfl rfl rfl ?_; simp only [Act.put]))
          clear hrow
          refine Agg.wp_at fun w21 hw21 => ?_
          have hb : Below wA.heap.size wA w21 := by rw [hw21.out]; repeat (first | exact Below.refl _ _ | refine Agg.bel_drew ?_ | refine Agg.bel_alloc ?_ _)
          replace HB := Lib.hid (HB.out.trans (hb.mono HB.out.size))
          clear hb
          have HX : Hid (Blk w21 wA.heap.size 36 [.int .i64 t, .int .i64 lo, .int .i64 hi]) := by show Blk _ _ _ _; rw [hw21.out]; exact Blk.new wA 36 #[.int .i64 t, .int .i64 lo, .int .i64 hi]
          clear hw21
          generalize wA.heap.size = gx at *
          obtain ⟨ok, hok⟩ : ∃ z, okBd p (t, lo, hi) = z := ⟨_, rfl⟩
          have HOK := Lib.hid hok
          rw [hok] at HST
          have hok2 := okBd_iff p (t, lo, hi)
          rw [hok] at hok2
          simp only at hok2
          have HOK2 := Lib.hid hok2
          clear hok hok2
          go_cut [47] from 20 to 47 (fun s wx => s = .bool (!ok) ∧ Below w21.heap.size w21 wx)
          case first =>
            have x0 := HX.out.cell 0
            have x1 := HX.out.cell 1
            have x2 := HX.out.cell 2
            simp only [List.getElem?_cons_succ, List.getElem?_cons_zero] at x0 x1 x2
            by_cases c1 : t ≤ p
            · obtain rfl : ok = false := by cases ok with | false => rfl | true => have := HOK2.out.1 rfl; omega
              go_wp2_with fail
              go_meet
              exact ⟨rfl, Below.refl _ _⟩
            · by_cases c2 : t > 281474976710656
              · obtain rfl : ok = false := by cases ok with | false => rfl | true => have := HOK2.out.1 rfl; unfold maxT at this; omega
                go_wp2_with fail
                go_meet
                exact ⟨rfl, Below.refl _ _⟩
              · by_cases c3 : lo > hi
                · obtain rfl : ok = false := by cases ok with | false => rfl | true => have := HOK2.out.1 rfl; omega
                  go_wp2_with fail
                  go_meet
                  exact ⟨rfl, Below.refl _ _⟩
                · have c4 := c3
                  obtain ⟨q1, hq1⟩ : ∃ z, backB lo = z := ⟨_, rfl⟩
                  obtain ⟨q2, hq2⟩ : ∃ z, backB hi = z := ⟨_, rfl⟩
                  have HQ1 := Lib.hid hq1
                  have HQ2 := Lib.hid hq2
                  have HFR : Hid (From w21 w21) := Lib.hid (Below.refl _ _)
                  have hok3 : ok = (q1 && q2) := by
                    have h1 := HOK2.out
                    have b1 : q1 = true ↔ -maxB ≤ lo ∧ lo ≤ maxB := by rw [← hq1]; simp [backB]
                    have b2 : q2 = true ↔ -maxB ≤ hi ∧ hi ≤ maxB := by rw [← hq2]; simp [backB]
                    unfold maxT at h1
                    rw [Bool.eq_iff_iff, Bool.and_eq_true, b1, b2, h1]
                    omega
                  have HOK3 := Lib.hid hok3
                  clear hq1 hq2 hok3
                  go_wp2_with fail
                  clear x0 x1 x2
                  refine (back_any lo q1 HQ1.out w21).mono ?_
                  rintro e w22 ⟨rfl, hb⟩
                  replace HB := Lib.hid (HB.out.trans (hb.mono HB.out.size))
                  replace HX := Lib.hid (HX.out.keep hb)
                  replace HFR := Lib.hid (HFR.out.keep hb)
                  clear hb
                  cases q1
                  · obtain rfl : ok = false := HOK3.out
                    go_wp2_with fail
                    go_meet
                    exact ⟨rfl, HFR.out⟩
                  · obtain rfl : ok = q2 := by rw [HOK3.out]; rfl
                    have x2 := HX.out.cell 2
                    simp only [List.getElem?_cons_succ, List.getElem?_cons_zero] at x2
                    go_wp2_with fail
                    clear x2
                    refine (back_any hi ok HQ2.out w22).mono ?_
                    rintro e w23 ⟨rfl, hb⟩
                    replace HB := Lib.hid (HB.out.trans (hb.mono HB.out.size))
                    replace HX := Lib.hid (HX.out.keep hb)
                    replace HFR := Lib.hid (HFR.out.keep hb)
                    clear hb
                    go_wp2_with fail
                    go_meet
                    exact ⟨rfl, HFR.out⟩
          case rest =>
            obtain ⟨rfl, hwx⟩ := hcut
            have hb := hwx
            replace HB := Lib.hid (HB.out.trans (hb.mono HB.out.size))
            replace HX := Lib.hid (HX.out.keep hb)
            clear hb
            clear hwx HOK2
            cases ok
            · obtain rfl : q = false := by rw [HST.out]; rfl
              rw [show (!false) = true from rfl]
              go_wp2_with fail
              go_ret
              exact ⟨rfl, HB.out⟩
            · have hst := HST.out
              rw [Bool.true_and] at hst
              have HS2 := Lib.hid hst
              clear hst HST
              have x0 := HX.out.cell 0
              simp only [List.getElem?_cons_succ, List.getElem?_cons_zero] at x0
              rw [show (!true) = false from rfl]
              go_wp2_with fail
              exact ⟨⟨k + 1, t, by omega, by go_num, rfl, HS2.out.symm, HB.out⟩, by simp [intOf]; omega⟩
        · obtain rfl : k = l.length := by omega
          have hc := HC.out
          rw [List.drop_length] at hc
          obtain rfl : q = true := hc.symm
          go_wp2_with fail
          go_ret
          exact ⟨rfl, HB.out⟩
end Go.Proofs.Ytchpkgneloiidaa
end
section
/-
  THE WALKS OF LAYER 8 (pmc): longest.
-/
namespace Go.Proofs.Ytchpkgneloiidaa
open Go.ChangeShapes Go.WideShapes Go.ChangeAt Go.RowKit Agg Pg Pm
attribute [local go_sem] Oper.semAt_some

theorem lg_step (c : Spn × Bool) (n : Nat) (l : List Bd) (k : Nat) (h : k < l.length) : lg c n (l.drop k) = if tkB c l[k] then lg (tkC c l[k]) (n + 1) (l.drop (k + 1)) else (c, n) := by
  rw [List.drop_eq_getElem_cons h, lg]
  unfold tkB tkC
  cases tk c l[k] <;> rfl
theorem tk_ok (c : Spn × Bool) (b : Bd) (hb : b.2.1 ≤ b.2.2) (hc : c.2 = true → c.1.1 ≤ c.1.2) : (tkC c b).2 = true → (tkC c b).1.1 ≤ (tkC c b).1.2 := by
  intro h
  unfold tkC at h ⊢
  unfold tk at h ⊢
  by_cases h1 : c.2 = true
  · rw [if_pos h1] at h ⊢
    by_cases h2 : max c.1.1 b.2.1 ≤ min c.1.2 b.2.2
    · rw [if_pos h2]; exact h2
    · rw [if_neg h2]; exact hc h1
  · rw [if_neg h1]; exact hb
theorem tk_no {c : Spn × Bool} {b : Bd} (h : tkB c b = false) : tkC c b = c := by
  unfold tkB at h
  unfold tkC
  cases hk : tk c b with
  | none => rfl
  | some s => rw [hk] at h; cases h
set_option maxHeartbeats 4000000 in
set_option maxRecDepth 100000 in
theorem longest_any (l : List Bd) (v : Value) (w : World) (hl : Bds w v l) (hok : Okb l) :
    Calls Try.prog 29 #[v] w fun e w' => e = .returned (.tuple #[.agg (comC (longest l).1).toArray, .int .i64 ((longest l).2 : Int)]) ∧ Below w.heap.size w w' := by
  obtain ⟨x, cap, rfl, _⟩ := SlR.shape hl
  have HL0 := Lib.hid hl
  have HOK := Lib.hid hok
  have hln := (Bds.len hl).2
  obtain ⟨R, hR⟩ : ∃ R, longest l = R := ⟨_, rfl⟩
  rw [hR]
  have HR : Hid (lg ((0, 0), false) 0 (l.drop 0) = R) := Lib.hid (by rw [List.drop_zero]; exact hR)
  have hmf : ∀ (fn : Fn) (first cap : Array Value) (w : World), (Instr.makeFunc fn first cap).run Try.prog w = .ok (.func fn first cap) w := fun _ _ _ _ => rfl
  clear hl hok hR
  have HB := Lib.hid (Below.refl w.heap.size w)
  go_enter Try.func29, Try.ntmps29
  go_wp2_with fail
  go_step3
  go_wp2_with fail
  refine Agg.wp_at fun w1 hw1 => ?_
  have hb : Below w.heap.size w w1 := by rw [hw1.out]; repeat (first | exact Below.refl _ _ | refine Agg.bel_drew ?_ | refine Agg.bel_alloc ?_ _)
  replace HB := Lib.hid (HB.out.trans (hb.mono HB.out.size))
  clear hb
  have H2 : Hid (Blk w1 w.heap.size 62 (comC ((0, 0), false))) := by show Blk _ _ _ _; rw [hw1.out]; exact (Blk.new w 62 (comC ((0, 0), false)).toArray).al _
  have H4 : Hid (Blk w1 (w.heap.size + 1) 62 (comC ((0, 0), false))) := by show Blk _ _ _ _; rw [hw1.out]; exact Blk.newAt (w.alloc _) 62 (comC ((0, 0), false)).toArray _ (by simp)
  clear hw1 hmf
  go_step3
  go_wp2_with fail
  go_loopw [6, 12] (fun s6 ix wr => ∃ (k : Nat) (c : Spn × Bool), k ≤ l.length ∧ ix = .int .i64 k ∧ s6 = .int .i64 k ∧ (c.2 = true → c.1.1 ≤ c.1.2) ∧ lg c k (l.drop k) = R ∧ Below w.heap.size w wr ∧ Blk wr w.heap.size 62 (comC ((0, 0), false)) ∧ Blk wr (w.heap.size + 1) 62 (comC c)) (fun _ ix _ => l.length - (intOf ix).toNat)
  case atStart => exact ⟨0, ((0, 0), false), by omega, rfl, by first | rfl | trivial, by simp, HR.out, HB.out, H2.out, H4.out⟩
  case round =>
    obtain ⟨k, c, hk, rfl, rfl, hc, hlg, hb, h2, h4⟩ := hrel
    have HC := Lib.hid hc
    have HLG := Lib.hid hlg
    replace HB := Lib.hid hb
    replace H2 := Lib.hid h2
    replace H4 := Lib.hid h4
    have HL := Lib.hid (SlR.keep HL0.out hb)
    clear hc hlg hb h2 h4 HR
    obtain ⟨wA, hwA⟩ : ∃ x, x = wr := ⟨_, rfl⟩
    subst hwA
    by_cases hlt : k < l.length
    · have hst := lg_step c k l k hlt
      rw [HLG.out] at hst
      have hkb := HOK.out _ (List.getElem_mem hlt)
      obtain ⟨b, o, cap', hve, _, _, _, _⟩ := SlR.pos HL.out (by decide) (by omega)
      simp only [Value.slice.injEq, true_and] at hve
      obtain ⟨rfl, rfl⟩ := hve
      have hrow := flat_at bdC 3 (by decide) HL.out (fun b hb => rfl) hlt
      obtain ⟨r, hr⟩ : ∃ r, l[k]'hlt = r := ⟨_, rfl⟩
      rw [hr] at hrow hst hkb
      clear hr
      have HST := Lib.hid hst
      have HKB := Lib.hid hkb
      have htk := takes_any c r (w.heap.size + 1) (w.heap.size + 1)
      have HTK := Lib.hid htk
      clear hst hkb htk
      obtain ⟨t, lo, hi⟩ := r
      go_upto_region 7 with (first
        | (refine Agg.gLoad 3 [.int .i64 t, .int .i64 lo, .int .i64 hi] rfl rfl rfl (by decide +kernel) rfl hrow ?_; simp only [Act.put, List.setIfInBounds_toArray, List.set_cons_succ, List.set_cons_zero])
        | (refine Agg.allocRow 36 #[.int .i64 0, .int .i64 0, .int .i64 0] rfl rfl (by kernel_rfl) ?_; simp only [Act.put, List.setIfInBounds_toArray, List.set_cons_succ, List.set_cons_zero])
        | (refine Agg.gStoreNew 3 [.int .i64 t, .int .i64 lo, .int .i64 hi] rfl rfl rfl rfl rfl rfl (by decide +kernel) rfl rfl rfl ?_; simp only [Act.put]))
      clear hrow
      refine Agg.wp_at fun w21 hw21 => ?_
      have hb : Below wA.heap.size wA w21 := by rw [hw21.out]; repeat (first | exact Below.refl _ _ | refine Agg.bel_drew ?_ | refine Agg.bel_alloc ?_ _)
      replace HB := Lib.hid (HB.out.trans (hb.mono HB.out.size))
      replace H2 := Lib.hid (H2.out.keep hb)
      replace H4 := Lib.hid (H4.out.keep hb)
      clear hb
      have hx : Blk w21 wA.heap.size 36 [.int .i64 t, .int .i64 lo, .int .i64 hi] := by rw [hw21.out]; exact Blk.new wA 36 #[.int .i64 t, .int .i64 lo, .int .i64 hi]
      clear hw21
      generalize wA.heap.size = gx at *
      go_wp2_with (refine Agg.gLoadB 3 hx rfl rfl rfl rfl (by decide +kernel) ?_; simp only [Act.put, List.setIfInBounds_toArray, List.set_cons_succ, List.set_cons_zero])
      clear hx
      refine (HTK.out w21 (Nat.le_refl _) HC.out HKB.out.1 H4.out).mono ?_
      rintro e w40 ⟨rfl, h4, hb4⟩
      have h2' : Blk w40 w.heap.size 62 (comC ((0, 0), false)) := (hb4.block _ (Nat.lt_succ_self _)).trans H2.out
      have HB4 := Lib.hid (HB.out.trans (hb4.mono (Nat.le_succ _)))
      have H24 := Lib.hid h2'
      have H44 := Lib.hid h4
      clear h4 hb4 h2' HB H2 H4
      obtain ⟨z, hz⟩ : ∃ z, tkB c (t, lo, hi) = z := ⟨_, rfl⟩
      have HZ := Lib.hid hz
      have hst := HST.out
      rw [hz] at hst ⊢
      clear hz HST
      cases z
      · rw [if_neg (by decide)] at hst
        obtain rfl : R = (c, k) := hst
        have h4 := H44.out
        rw [tk_no HZ.out] at h4
        have h2 := H24.out
        clear H24 H44
        obtain ⟨⟨c1, c2⟩, cs⟩ := c
        simp only [comC] at h2 h4 ⊢
        go_wp2_with (first
          | (refine Agg.gLoadB 3 h4 rfl rfl rfl rfl (by decide +kernel) ?_; simp only [Act.put, List.setIfInBounds_toArray, List.set_cons_succ, List.set_cons_zero]; clear h4)
          | (refine Agg.gStoreB 3 [.int .i64 c1, .int .i64 c2, .bool cs] h2 rfl rfl rfl rfl rfl (by decide +kernel) rfl rfl (by simp [Value.oneCell']) (fun w14 hb14 hg14 => ?_); clear h2))
        refine bodyPost_ret (results_row2 (m := 3) rfl hb14 rfl (by decide +kernel) rfl) rfl ⟨rfl, ?_⟩
        exact HB4.out.trans (grown_below hg14 HB4.out.size (fun j hj => by cases hj; exact Nat.le_refl _))
      · rw [if_pos rfl] at hst
        have HST2 := Lib.hid hst.symm
        clear hst
        go_wp2_with fail
        exact ⟨⟨k + 1, tkC c (t, lo, hi), by omega, by go_num, by go_num, tk_ok c _ HKB.out.1 HC.out, HST2.out, HB4.out, H24.out, H44.out⟩, by simp [intOf]; omega⟩
    · obtain rfl : k = l.length := by omega
      have hlg := HLG.out
      rw [List.drop_length] at hlg
      obtain rfl : R = (c, l.length) := hlg.symm
      have h4 := H4.out
      have h2 := H2.out
      clear H2 H4
      obtain ⟨⟨c1, c2⟩, cs⟩ := c
      simp only [comC] at h2 h4 ⊢
      go_wp2_with (first
        | (refine Agg.gLoadB 3 h4 rfl rfl rfl rfl (by decide +kernel) ?_; simp only [Act.put, List.setIfInBounds_toArray, List.set_cons_succ, List.set_cons_zero]; clear h4)
        | (refine Agg.gStoreB 3 [.int .i64 c1, .int .i64 c2, .bool cs] h2 rfl rfl rfl rfl rfl (by decide +kernel) rfl rfl (by simp [Value.oneCell']) (fun w14 hb14 hg14 => ?_); clear h2))
      refine bodyPost_ret (results_row2 (m := 3) rfl hb14 rfl (by decide +kernel) rfl) rfl ⟨rfl, ?_⟩
      exact HB.out.trans (grown_below hg14 HB.out.size (fun j hj => by cases hj; exact Nat.le_refl _))
end Go.Proofs.Ytchpkgneloiidaa
end
