/-
  THE WALKS OF LAYER 8's DOCUMENT: Through, Right, Common.
-/
import Derived.Test.YtchpkgneloiidaaPmG
namespace Pm
/-- the document's common constants -/
def dStep (l : List Bd) (st : Spn × Bool) (b : Bd) : Spn × Bool :=
  let s1 : Spn × Bool := if thrB l b.2.1 then ((b.2.1, st.1.2), true) else st
  if thrB l b.2.2 then ((s1.1.1, b.2.2), s1.2) else s1
def docCom (l : List Bd) : Spn × Bool := l.foldl (dStep l) ((0, 0), false)
theorem docCom_no {l : List Bd} (h : ∀ v, ¬ Thr l v) : docCom l = ((0, 0), false) := by
  have hs : ∀ st b, dStep l st b = st := fun st b => by
    have e1 : thrB l b.2.1 = false := by cases e : thrB l b.2.1 with | false => rfl | true => exact absurd ((thrB_iff _ _).1 e) (h _)
    have e2 : thrB l b.2.2 = false := by cases e : thrB l b.2.2 with | false => rfl | true => exact absurd ((thrB_iff _ _).1 e) (h _)
    simp [dStep, e1, e2]
  have : ∀ (m : List Bd) st, m.foldl (dStep l) st = st := fun m => by
    induction m with
    | nil => intro st; rfl
    | cons b m ih => intro st; rw [List.foldl_cons, hs]; exact ih st
  exact this l _
theorem min_hi : ∀ (l : List Bd), l ≠ [] → ∃ b ∈ l, ∀ c ∈ l, b.2.2 ≤ c.2.2
  | [], h => absurd rfl h
  | [a], _ => ⟨a, by simp, fun c hc => by simp at hc; subst hc; exact Int.le_refl _⟩
  | a :: b :: l, _ => by
    obtain ⟨m, h1, h2⟩ := min_hi (b :: l) (by simp)
    by_cases h : a.2.2 ≤ m.2.2
    · exact ⟨a, by simp, fun c hc => by
        rcases List.mem_cons.1 hc with rfl | hc
        · exact Int.le_refl _
        · have := h2 c hc; omega⟩
    · exact ⟨m, List.mem_cons_of_mem _ h1, fun c hc => by
        rcases List.mem_cons.1 hc with rfl | hc
        · omega
        · exact h2 c hc⟩
theorem docCom_yes {l : List Bd} (hne : l ≠ []) {s : Spn} (hs : s.1 ≤ s.2) (h : ∀ v, (s.1 ≤ v ∧ v ≤ s.2) ↔ Thr l v) : docCom l = (s, true) := by
  have hlo : ∀ b ∈ l, thrB l b.2.1 = true → b.2.1 = s.1 := fun b hb ht => by
    have h1 := (h _).2 ((thrB_iff _ _).1 ht)
    have h2 := (h s.1).1 ⟨Int.le_refl _, hs⟩ b hb
    omega
  have hhi : ∀ b ∈ l, thrB l b.2.2 = true → b.2.2 = s.2 := fun b hb ht => by
    have h1 := (h _).2 ((thrB_iff _ _).1 ht)
    have h2 := (h s.2).1 ⟨hs, Int.le_refl _⟩ b hb
    omega
  have key : ∀ (m : List Bd), (∀ b ∈ m, b ∈ l) → ∀ st : Spn × Bool, ((st.2 = true → st.1.1 = s.1) ∧ (st.2 = true ∨ st.1.1 = 0)) →
      ((m.foldl (dStep l) st).2 = true → (m.foldl (dStep l) st).1.1 = s.1) ∧ ((st.2 = true ∨ ∃ b ∈ m, thrB l b.2.1 = true) → (m.foldl (dStep l) st).2 = true) ∧ ((st.1.2 = s.2 ∨ ∃ b ∈ m, thrB l b.2.2 = true) → (m.foldl (dStep l) st).1.2 = s.2) := by
    intro m
    induction m with
    | nil => intro _ st hst; exact ⟨hst.1, fun h => by simpa using h, fun h => by simpa using h⟩
    | cons b m ih =>
      intro hm st hst
      have hb := hm b (by simp)
      have hst2 : ((dStep l st b).2 = true → (dStep l st b).1.1 = s.1) ∧ ((dStep l st b).2 = true ∨ (dStep l st b).1.1 = 0) := by
        unfold dStep
        cases e1 : thrB l b.2.1 <;> cases e2 : thrB l b.2.2
        · simpa using hst
        · simpa using hst
        · have := hlo b hb e1; simp [this]
        · have := hlo b hb e1; simp [this]
      obtain ⟨i1, i2, i3⟩ := ih (fun c hc => hm c (by simp [hc])) (dStep l st b) hst2
      rw [List.foldl_cons]
      refine ⟨i1, fun hh => i2 ?_, fun hh => i3 ?_⟩
      · rcases hh with hh | ⟨c, hc, hh⟩
        · left; unfold dStep; cases e1 : thrB l b.2.1 <;> cases e2 : thrB l b.2.2 <;> simp [hh]
        · rcases List.mem_cons.1 hc with rfl | hc
          · left; unfold dStep; cases e2 : thrB l c.2.2 <;> simp [hh]
          · exact .inr ⟨c, hc, hh⟩
      · rcases hh with hh | ⟨c, hc, hh⟩
        · left; unfold dStep
          cases e1 : thrB l b.2.1 <;> cases e2 : thrB l b.2.2
          · simpa using hh
          · have := hhi b hb e2; simp [this]
          · simpa using hh
          · have := hhi b hb e2; simp [this]
        · rcases List.mem_cons.1 hc with rfl | hc
          · left; have := hhi c hb hh; unfold dStep; cases e1 : thrB l c.2.1 <;> simp only [hh, if_true, Bool.false_eq_true, if_false] <;> exact this
          · exact .inr ⟨c, hc, hh⟩
  obtain ⟨k1, k2, k3⟩ := key l (fun _ h => h) ((0, 0), false) ⟨fun h => Bool.noConfusion h, .inr rfl⟩
  obtain ⟨b, hb, hb2⟩ := max_lo l hne
  obtain ⟨c, hc, hc2⟩ := min_hi l hne
  have t1 : thrB l b.2.1 = true := (thrB_iff _ _).2 fun d hd => ⟨hb2 d hd, by
    have h1 := (h s.1).1 ⟨Int.le_refl _, hs⟩ b hb
    have h2 := (h s.1).1 ⟨Int.le_refl _, hs⟩ d hd
    omega⟩
  have t2 : thrB l c.2.2 = true := (thrB_iff _ _).2 fun d hd => ⟨by
    have h1 := (h s.1).1 ⟨Int.le_refl _, hs⟩ c hc
    have h2 := (h s.1).1 ⟨Int.le_refl _, hs⟩ d hd
    omega, hc2 d hd⟩
  have r2 := k2 (.inr ⟨b, hb, t1⟩)
  have r1 := k1 r2
  have r3 := k3 (.inr ⟨c, hc, t2⟩)
  show docCom l = (s, true)
  unfold docCom
  generalize l.foldl (dStep l) ((0, 0), false) = r at *
  obtain ⟨⟨a1, a2⟩, a3⟩ := r
  exact Prod.ext (Prod.ext r1 r3) r2
theorem docCom_ok {l : List Bd} (hne : l ≠ []) (hok : Okb l) : (docCom l).2 = true ↔ ∃ v, Thr l v := by
  obtain ⟨t, k, h1, h2, h3, h4, h5, h6⟩ := longest_spec hne hok
  by_cases hk : k = l.length
  · subst hk
    rw [List.take_length] at h5
    rw [docCom_yes hne h4 h5]
    exact ⟨fun _ => ⟨t.1, (h5 _).1 ⟨Int.le_refl _, h4⟩⟩, fun _ => rfl⟩
  · have hno : ∀ v, ¬ Thr l v := fun v hv => h6 (by omega) v (fun b hb => hv b (List.mem_of_mem_take hb))
    rw [docCom_no hno]
    exact ⟨fun h => Bool.noConfusion h, fun ⟨v, hv⟩ => absurd hv (hno v)⟩
end Pm
namespace Go.Proofs.Ytchpkgneloiidaa
open Go.ChangeShapes Go.WideShapes Go.ChangeAt Go.RowKit Agg Pg Pm
attribute [local go_sem] Oper.semAt_some

set_option maxHeartbeats 4000000 in
set_option maxRecDepth 100000 in
theorem rthr_any (l : List Bd) (v : Value) (c : Int) (w : World) (hl : Bds w v l) (q : Bool) (hq : thrB l c = q) :
    Calls Try.prog 32 #[v, .int .i64 c] w fun e w' => e = .returned (.bool q) ∧ Below w.heap.size w w' := by
  obtain ⟨x, cap, rfl, _⟩ := SlR.shape hl
  have HL0 := Lib.hid hl
  have HQ := Lib.hid hq
  have hln := (Bds.len hl).2
  clear hl hq
  have HB := Lib.hid (Below.refl w.heap.size w)
  go_enter Try.func32, Try.ntmps32
  go_wp2_with fail
  go_loopw [9] (fun ix wr => ∃ (k : Nat), k ≤ l.length ∧ ix = .int .i64 k ∧ thrB (l.take k) c = true ∧ Below w.heap.size w wr) (fun ix _ => l.length - (intOf ix).toNat)
  case atStart => exact ⟨0, by omega, rfl, rfl, HB.out⟩
  case round =>
    obtain ⟨k, hk, rfl, hc, hb⟩ := hrel
    have HC := Lib.hid hc
    replace HB := Lib.hid hb
    have HL := Lib.hid (SlR.keep HL0.out hb)
    clear hc hb
    obtain ⟨wA, hwA⟩ : ∃ x, x = wr := ⟨_, rfl⟩
    subst hwA
    by_cases hlt : k < l.length
    · obtain ⟨b, o, cap', hve, _, _, _, _⟩ := SlR.pos HL.out (by decide) (by omega)
      simp only [Value.slice.injEq, true_and] at hve
      obtain ⟨rfl, rfl⟩ := hve
      have hrow := flat_at bdC 3 (by decide) HL.out (fun b hb => rfl) hlt
      have hst : thrB (l.take (k + 1)) c = (decide (l[k].2.1 ≤ c) && decide (c ≤ l[k].2.2)) := by
        rw [List.take_succ_eq_append_getElem hlt]
        have := HC.out
        unfold thrB at this ⊢
        rw [List.all_append, this]
        simp
      have hal : thrB l c = true → thrB (l.take (k + 1)) c = true := fun h => by
        rw [thrB_iff] at h ⊢
        exact fun b hb => h b (List.mem_of_mem_take hb)
      obtain ⟨r, hr⟩ : ∃ r, l[k]'hlt = r := ⟨_, rfl⟩
      rw [hr] at hrow hst
      clear hr
      obtain ⟨t, lo, hi⟩ := r
      simp only at hst
      have HST := Lib.hid hst
      have HAL := Lib.hid hal
      clear hst hal
      go_upto_region 4 with (first
        | (refine Agg.gLoad 3 [.int .i64 t, .int .i64 lo, .int .i64 hi] rfl rfl rfl (by decide +kernel) rfl hrow ?_; simp only [Act.put, List.setIfInBounds_toArray, List.set_cons_succ, List.set_cons_zero])
        | (refine Agg.allocRow 36 #[.int .i64 0, .int .i64 0, .int .i64 0] rfl rfl (by kernel_rfl) ?_; simp only [Act.put, List.setIfInBounds_toArray, List.set_cons_succ, List.set_cons_zero])
        | (refine Agg.gStoreNew 3 [.int .i64 t, .int .i64 lo, .int .i64 hi] rfl rfl rfl rfl rfl rfl (by decide +kernel) rfl rfl rfl ?_; simp only [Act.put]))
      clear hrow
      refine Agg.wp_at fun w21 hw21 => ?_
      have hb : Below wA.heap.size wA w21 := by rw [hw21.out]; repeat (first | exact Below.refl _ _ | refine Agg.bel_drew ?_ | refine Agg.bel_alloc ?_ _)
      replace HB := Lib.hid (HB.out.trans (hb.mono HB.out.size))
      clear hb
      have HX : Hid (Blk w21 wA.heap.size 36 [.int .i64 t, .int .i64 lo, .int .i64 hi]) := by show Blk _ _ _ _; rw [hw21.out]; exact Blk.new wA 36 #[.int .i64 t, .int .i64 lo, .int .i64 hi]
      clear hw21
      generalize wA.heap.size = gx at *
      have x1 := HX.out.cell 1
      have x2 := HX.out.cell 2
      simp only [List.getElem?_cons_succ, List.getElem?_cons_zero] at x1 x2
      by_cases h1 : c < lo
      · have hqf : q = false := by
          rw [← HQ.out]
          cases h : thrB l c with
          | false => rfl
          | true => have h2 := HAL.out h; rw [HST.out] at h2; simp at h2; omega
        go_wp2_with fail
        go_ret
        exact ⟨by first | rfl | (rw [hqf]; rfl), HB.out⟩
      · by_cases h2 : c > hi
        · have hqf : q = false := by
            rw [← HQ.out]
            cases h : thrB l c with
            | false => rfl
            | true => have h2 := HAL.out h; rw [HST.out] at h2; simp at h2; omega
          go_wp2_with fail
          go_ret
          exact ⟨by first | rfl | (rw [hqf]; rfl), HB.out⟩
        · have hqt : thrB (l.take (k + 1)) c = true := by rw [HST.out]; simp; omega
          have HQT := Lib.hid hqt
          clear hqt
          go_wp2_with fail
          exact ⟨⟨k + 1, by omega, by go_num, HQT.out, HB.out⟩, by simp [intOf]; omega⟩
    · obtain rfl : k = l.length := by omega
      have h1 : thrB l c = true := by have := HC.out; rwa [List.take_length] at this
      have hqt : q = true := by rw [← HQ.out]; exact h1
      clear h1
      go_wp2_with fail
      go_ret
      exact ⟨by first | rfl | (rw [hqt]; rfl), HB.out⟩
set_option maxHeartbeats 4000000 in
set_option maxRecDepth 100000 in
theorem right_any (l : List Bd) (v : Value) (w : World) (hl : Bds w v l) (q : Bool) (hq : checkB l = q) :
    Calls Try.prog 14 #[v] w fun e w' => e = .returned (.bool q) ∧ Below w.heap.size w w' := by
  obtain ⟨x, cap, rfl, _⟩ := SlR.shape hl
  have HL0 := Lib.hid hl
  have hln := (Bds.len hl).2
  have HQ := Lib.hid hq
  clear hl hq
  have HB := Lib.hid (Below.refl w.heap.size w)
  go_enter Try.func14, Try.ntmps14
  by_cases h0 : l.length = 0
  · have h0b : ((l.length : Int) == 0) = true := by simp [h0]
    obtain rfl : q = false := by rw [← HQ.out]; simp [checkB, h0]
    clear h0
    go_wp2_with fail
    go_ret
    exact ⟨rfl, HB.out⟩
  · have h0b : ((l.length : Int) == 0) = false := by simpa using h0
    by_cases h256 : l.length > 256
    · have h2b : (l.length : Int) > 256 := by omega
      obtain rfl : q = false := by rw [← HQ.out]; simp [checkB]; intro _ h; omega
      go_wp2_with fail
      go_ret
      exact ⟨rfl, HB.out⟩
    · have h2b : ¬ (l.length : Int) > 256 := by omega
      have hqc : chk (-1) l = q := by
        rw [← HQ.out]; unfold checkB
        rw [decide_eq_true (show 1 ≤ l.length by omega), decide_eq_true (show l.length ≤ 256 by omega)]; rfl
      have HQC := Lib.hid hqc
      clear hqc HQ
      go_wp2_with fail
      go_loopw [15] (fun ix wr => ∃ (k : Nat) (p : Int), k ≤ l.length ∧ ix = .int .i64 k ∧ -1 ≤ p ∧ (k = 0 → p = -1) ∧ (∀ (h : 0 < k) (h2 : k - 1 < l.length), (l[k - 1]'h2).1 = p) ∧ chk p (l.drop k) = q ∧ Below w.heap.size w wr) (fun ix _ => l.length - (intOf ix).toNat)
      case atStart => exact ⟨0, -1, by omega, rfl, by omega, fun _ => rfl, fun h => absurd h (by omega), by simpa using HQC.out, HB.out⟩
      case round =>
        obtain ⟨k, p, hk, rfl, hp, hp0, hpv, hc, hb⟩ := hrel
        have HC := Lib.hid hc
        replace HB := Lib.hid hb
        have HL := Lib.hid (SlR.keep HL0.out hb)
        clear hc hb HQC
        obtain ⟨wA, hwA⟩ : ∃ x, x = wr := ⟨_, rfl⟩
        subst hwA
        by_cases hlt : k < l.length
        · have hst := chk_step l k hlt p
          rw [HC.out] at hst
          obtain ⟨b, o, cap', hve, _, _, _, _⟩ := SlR.pos HL.out (by decide) (by omega)
          simp only [Value.slice.injEq, true_and] at hve
          obtain ⟨rfl, rfl⟩ := hve
          have hrow := flat_at bdC 3 (by decide) HL.out (fun b hb => rfl) hlt
          have hprv : ∀ (h : 0 < k), wA.cell? ⟨b, o + ((k : Int) - 1).toNat * 3 + 0, none⟩ = some (.int .i64 p) := fun h => by
            have h2 : k - 1 < l.length := by omega
            have h3 := flat_at bdC 3 (by decide) HL.out (fun b hb => rfl) h2 0 (.int .i64 (l[k - 1]'h2).1) rfl
            rw [hpv h h2] at h3
            rw [show ((k : Int) - 1).toNat = ((k - 1 : Nat) : Int).toNat by omega]
            exact h3
          have hpv2 : ∀ (h : 0 < k + 1) (h2 : k + 1 - 1 < l.length), (l[k + 1 - 1]'h2).1 = (l[k]'hlt).1 := fun _ _ => rfl
          obtain ⟨r, hr⟩ : ∃ r, l[k]'hlt = r := ⟨_, rfl⟩
          rw [hr] at hrow hst hpv2
          clear hr hpv
          obtain ⟨t, lo, hi⟩ := r
          simp only at hst
          have hok2 := okBd_iff p (t, lo, hi)
          simp only at hok2
          have hgood : (p < t ∧ t ≤ 281474976710656 ∧ lo ≤ hi ∧ -2305844108725321728 ≤ lo ∧ hi ≤ 2305844108725321728) → chk t (l.drop (k + 1)) = q := fun h => by
            have := hok2.2 h
            rw [hst, this]; rfl
          have hbad : ¬ (p < t ∧ t ≤ 281474976710656 ∧ lo ≤ hi ∧ -2305844108725321728 ≤ lo ∧ hi ≤ 2305844108725321728) → q = false := fun h => by
            rw [hst]
            cases h3 : okBd p (t, lo, hi) with
            | false => rfl
            | true => exact absurd (hok2.1 h3) h
          have HGOOD := Lib.hid hgood
          have HBAD := Lib.hid hbad
          have HPV := Lib.hid hpv2
          have HPR := Lib.hid hprv
          clear hst HC hok2 hgood hbad hpv2 hprv
          have HLA := Lib.hid HB.out
          go_upto_region 6 with (first
            | (refine Agg.gLoad 3 [.int .i64 t, .int .i64 lo, .int .i64 hi] rfl rfl rfl (by decide +kernel) rfl hrow ?_; simp only [Act.put, List.setIfInBounds_toArray, List.set_cons_succ, List.set_cons_zero])
            | (refine Agg.allocRow 36 #[.int .i64 0, .int .i64 0, .int .i64 0] rfl rfl (by kernel_rfl) ?_; simp only [Act.put, List.setIfInBounds_toArray, List.set_cons_succ, List.set_cons_zero])
            | (refine Agg.gStoreNew 3 [.int .i64 t, .int .i64 lo, .int .i64 hi] rfl rfl rfl rfl rfl rfl (by decide +kernel) rfl rfl rfl ?_; simp only [Act.put]))
          clear hrow
          refine Agg.wp_at fun w21 hw21 => ?_
          have hb : Below wA.heap.size wA w21 := by rw [hw21.out]; repeat (first | exact Below.refl _ _ | refine Agg.bel_drew ?_ | refine Agg.bel_alloc ?_ _)
          replace HB := Lib.hid (HB.out.trans (hb.mono HB.out.size))
          clear hb
          have HX : Hid (Blk w21 wA.heap.size 36 [.int .i64 t, .int .i64 lo, .int .i64 hi]) := by show Blk _ _ _ _; rw [hw21.out]; exact Blk.new wA 36 #[.int .i64 t, .int .i64 lo, .int .i64 hi]
          have hbp : Below wA.heap.size wA w21 := by rw [hw21.out]; exact (Below.refl _ _).alloc (Nat.le_refl _) _
          clear hw21
          have HPC0 : Hid (∀ (h : 0 < k), w21.cell? ⟨b, o + ((k : Int) - 1).toNat * 3 + 0, none⟩ = some (.int .i64 p)) := Lib.hid fun h => cell_keep hbp (HPR.out h)
          clear hbp HPR HLA
          generalize wA.heap.size = gx at *
          have hkl : k ≤ 256 := by omega
          have hlc : l.length ≤ 256 := by omega
          by_cases hk0 : (k : Int) > 0
          · have HPC := Lib.hid (HPC0.out (by omega))
            clear hp0
            by_cases h1 : t < 0
            · have _u := h1
              refine Agg.chainR 40 (by kernel_rfl) (by kernel_rfl) ?_
              simp only [List.take_succ_cons, List.take_zero, List.drop_succ_cons, List.drop_zero]
              refine Agg.chFA fo_Band_0 rfl rfl rfl rfl ?_
              refine Agg.chLoadB HX.out (by decide +kernel) rfl rfl (by rfl) rfl rfl ?_
              refine Agg.chLt true (decide_eq_true h1) rfl rfl rfl rfl rfl ?_
              refine Agg.chMove rfl rfl rfl rfl ?_
              refine Agg.chSkip rfl rfl ?_
              refine Agg.chSkip rfl rfl ?_
              refine Agg.chSkip rfl rfl ?_
              refine Agg.chPick rfl rfl rfl rfl rfl ?_
              refine Agg.chMove rfl rfl rfl rfl ?_
              refine Agg.chSkip rfl rfl ?_
              refine Agg.chSkip rfl rfl ?_
              refine Agg.chSkip rfl rfl ?_
              refine Agg.chSkip rfl rfl ?_
              refine Agg.chSkip rfl rfl ?_
              refine Agg.chSkip rfl rfl ?_
              refine Agg.chSkip rfl rfl ?_
              refine Agg.chSkip rfl rfl ?_
              refine Agg.chSkip rfl rfl ?_
              refine Agg.chSkip rfl rfl ?_
              refine Agg.chSkip rfl rfl ?_
              refine Agg.chSkip rfl rfl ?_
              refine Agg.chSkip rfl rfl ?_
              refine Agg.chPick rfl rfl rfl rfl rfl ?_
              refine Agg.chMove rfl rfl rfl rfl ?_
              refine Agg.chSkip rfl rfl ?_
              refine Agg.chSkip rfl rfl ?_
              refine Agg.chSkip rfl rfl ?_
              refine Agg.chSkip rfl rfl ?_
              refine Agg.chSkip rfl rfl ?_
              refine Agg.chPick rfl rfl rfl rfl rfl ?_
              refine Agg.chMove rfl rfl rfl rfl ?_
              refine Agg.chSkip rfl rfl ?_
              refine Agg.chSkip rfl rfl ?_
              refine Agg.chSkip rfl rfl ?_
              refine Agg.chPick rfl rfl rfl rfl rfl ?_
              refine Agg.chMove rfl rfl rfl rfl ?_
              refine Agg.chSkip rfl rfl ?_
              refine Agg.chSkip rfl rfl ?_
              refine Agg.chSkip rfl rfl ?_
              refine Agg.chPick rfl rfl rfl rfl rfl ?_
              refine Agg.chEnd ?_
              intro vs w22 hb _
              refine Agg.wpNil ?_
              simp only [List.reverse, List.reverseAux, Agg.fill, List.set_cons_succ, List.set_cons_zero]
              replace HB := Lib.hid (HB.out.trans (hb.mono HB.out.size))
              replace HX := Lib.hid (HX.out.keep hb)
              clear hb
              have hqf := HBAD.out (by omega)
              go_wp2_with fail
              go_ret
              exact ⟨by first | rfl | (rw [hqf]; rfl), HB.out⟩
            · have _v := h1
              by_cases h2 : t > 281474976710656
              · have _u := h2
                refine Agg.chainR 40 (by kernel_rfl) (by kernel_rfl) ?_
                simp only [List.take_succ_cons, List.take_zero, List.drop_succ_cons, List.drop_zero]
                refine Agg.chFA fo_Band_0 rfl rfl rfl rfl ?_
                refine Agg.chLoadB HX.out (by decide +kernel) rfl rfl (by rfl) rfl rfl ?_
                refine Agg.chLt false (decide_eq_false h1) rfl rfl rfl rfl rfl ?_
                refine Agg.chMove rfl rfl rfl rfl ?_
                refine Agg.chFA fo_Band_0 rfl rfl rfl rfl ?_
                refine Agg.chLoadB HX.out (by decide +kernel) rfl rfl (by rfl) rfl rfl ?_
                refine Agg.chGt true (decide_eq_true h2) rfl rfl rfl rfl rfl ?_
                refine Agg.chPick rfl rfl rfl rfl rfl ?_
                refine Agg.chMove rfl rfl rfl rfl ?_
                refine Agg.chSkip rfl rfl ?_
                refine Agg.chSkip rfl rfl ?_
                refine Agg.chSkip rfl rfl ?_
                refine Agg.chSkip rfl rfl ?_
                refine Agg.chSkip rfl rfl ?_
                refine Agg.chSkip rfl rfl ?_
                refine Agg.chSkip rfl rfl ?_
                refine Agg.chSkip rfl rfl ?_
                refine Agg.chSkip rfl rfl ?_
                refine Agg.chSkip rfl rfl ?_
                refine Agg.chSkip rfl rfl ?_
                refine Agg.chSkip rfl rfl ?_
                refine Agg.chSkip rfl rfl ?_
                refine Agg.chPick rfl rfl rfl rfl rfl ?_
                refine Agg.chMove rfl rfl rfl rfl ?_
                refine Agg.chSkip rfl rfl ?_
                refine Agg.chSkip rfl rfl ?_
                refine Agg.chSkip rfl rfl ?_
                refine Agg.chSkip rfl rfl ?_
                refine Agg.chSkip rfl rfl ?_
                refine Agg.chPick rfl rfl rfl rfl rfl ?_
                refine Agg.chMove rfl rfl rfl rfl ?_
                refine Agg.chSkip rfl rfl ?_
                refine Agg.chSkip rfl rfl ?_
                refine Agg.chSkip rfl rfl ?_
                refine Agg.chPick rfl rfl rfl rfl rfl ?_
                refine Agg.chMove rfl rfl rfl rfl ?_
                refine Agg.chSkip rfl rfl ?_
                refine Agg.chSkip rfl rfl ?_
                refine Agg.chSkip rfl rfl ?_
                refine Agg.chPick rfl rfl rfl rfl rfl ?_
                refine Agg.chEnd ?_
                intro vs w23 hb _
                refine Agg.wpNil ?_
                simp only [List.reverse, List.reverseAux, Agg.fill, List.set_cons_succ, List.set_cons_zero]
                replace HB := Lib.hid (HB.out.trans (hb.mono HB.out.size))
                replace HX := Lib.hid (HX.out.keep hb)
                clear hb
                have hqf := HBAD.out (by omega)
                go_wp2_with fail
                go_ret
                exact ⟨by first | rfl | (rw [hqf]; rfl), HB.out⟩
              · have _v := h2
                by_cases h3 : t ≤ p
                · have _u := h3
                  refine Agg.chainR 40 (by kernel_rfl) (by kernel_rfl) ?_
                  simp only [List.take_succ_cons, List.take_zero, List.drop_succ_cons, List.drop_zero]
                  refine Agg.chFA fo_Band_0 rfl rfl rfl rfl ?_
                  refine Agg.chLoadB HX.out (by decide +kernel) rfl rfl (by rfl) rfl rfl ?_
                  refine Agg.chLt false (decide_eq_false h1) rfl rfl rfl rfl rfl ?_
                  refine Agg.chMove rfl rfl rfl rfl ?_
                  refine Agg.chFA fo_Band_0 rfl rfl rfl rfl ?_
                  refine Agg.chLoadB HX.out (by decide +kernel) rfl rfl (by rfl) rfl rfl ?_
                  refine Agg.chGt false (decide_eq_false h2) rfl rfl rfl rfl rfl ?_
                  refine Agg.chPick rfl rfl rfl rfl rfl ?_
                  refine Agg.chMove rfl rfl rfl rfl ?_
                  refine Agg.chMove rfl rfl rfl rfl ?_
                  refine Agg.chGt true (decide_eq_true hk0) rfl rfl rfl rfl rfl ?_
                  refine Agg.chMove rfl rfl rfl rfl ?_
                  refine Agg.chFA fo_Band_0 rfl rfl rfl rfl ?_
                  refine Agg.chLoadB HX.out (by decide +kernel) rfl rfl (by rfl) rfl rfl ?_
                  refine Agg.chMove rfl rfl rfl rfl ?_
                  refine Agg.chMove rfl rfl rfl rfl ?_
                  refine Agg.chAr64 rfl rfl rfl rfl (by omega) (by omega) rfl rfl ?_
                  refine Agg.chIA tiBd (by omega) (by omega) rfl rfl rfl rfl rfl ?_
                  refine Agg.chFA fo_Band_0 rfl rfl rfl rfl ?_
                  refine Agg.chLoad rfl rfl rfl rfl (by decide +kernel) HPC.out ?_
                  refine Agg.chLe true (decide_eq_true h3) rfl rfl rfl rfl rfl ?_
                  refine Agg.chPick rfl rfl rfl rfl rfl ?_
                  refine Agg.chPick rfl rfl rfl rfl rfl ?_
                  refine Agg.chMove rfl rfl rfl rfl ?_
                  refine Agg.chSkip rfl rfl ?_
                  refine Agg.chSkip rfl rfl ?_
                  refine Agg.chSkip rfl rfl ?_
                  refine Agg.chSkip rfl rfl ?_
                  refine Agg.chSkip rfl rfl ?_
                  refine Agg.chPick rfl rfl rfl rfl rfl ?_
                  refine Agg.chMove rfl rfl rfl rfl ?_
                  refine Agg.chSkip rfl rfl ?_
                  refine Agg.chSkip rfl rfl ?_
                  refine Agg.chSkip rfl rfl ?_
                  refine Agg.chPick rfl rfl rfl rfl rfl ?_
                  refine Agg.chMove rfl rfl rfl rfl ?_
                  refine Agg.chSkip rfl rfl ?_
                  refine Agg.chSkip rfl rfl ?_
                  refine Agg.chSkip rfl rfl ?_
                  refine Agg.chPick rfl rfl rfl rfl rfl ?_
                  refine Agg.chEnd ?_
                  intro vs w24 hb _
                  refine Agg.wpNil ?_
                  simp only [List.reverse, List.reverseAux, Agg.fill, List.set_cons_succ, List.set_cons_zero]
                  replace HB := Lib.hid (HB.out.trans (hb.mono HB.out.size))
                  replace HX := Lib.hid (HX.out.keep hb)
                  clear hb
                  have hqf := HBAD.out (by omega)
                  go_wp2_with fail
                  go_ret
                  exact ⟨by first | rfl | (rw [hqf]; rfl), HB.out⟩
                · have _v := h3
                  by_cases h4 : lo > hi
                  · have _u := h4
                    refine Agg.chainR 40 (by kernel_rfl) (by kernel_rfl) ?_
                    simp only [List.take_succ_cons, List.take_zero, List.drop_succ_cons, List.drop_zero]
                    refine Agg.chFA fo_Band_0 rfl rfl rfl rfl ?_
                    refine Agg.chLoadB HX.out (by decide +kernel) rfl rfl (by rfl) rfl rfl ?_
                    refine Agg.chLt false (decide_eq_false h1) rfl rfl rfl rfl rfl ?_
                    refine Agg.chMove rfl rfl rfl rfl ?_
                    refine Agg.chFA fo_Band_0 rfl rfl rfl rfl ?_
                    refine Agg.chLoadB HX.out (by decide +kernel) rfl rfl (by rfl) rfl rfl ?_
                    refine Agg.chGt false (decide_eq_false h2) rfl rfl rfl rfl rfl ?_
                    refine Agg.chPick rfl rfl rfl rfl rfl ?_
                    refine Agg.chMove rfl rfl rfl rfl ?_
                    refine Agg.chMove rfl rfl rfl rfl ?_
                    refine Agg.chGt true (decide_eq_true hk0) rfl rfl rfl rfl rfl ?_
                    refine Agg.chMove rfl rfl rfl rfl ?_
                    refine Agg.chFA fo_Band_0 rfl rfl rfl rfl ?_
                    refine Agg.chLoadB HX.out (by decide +kernel) rfl rfl (by rfl) rfl rfl ?_
                    refine Agg.chMove rfl rfl rfl rfl ?_
                    refine Agg.chMove rfl rfl rfl rfl ?_
                    refine Agg.chAr64 rfl rfl rfl rfl (by omega) (by omega) rfl rfl ?_
                    refine Agg.chIA tiBd (by omega) (by omega) rfl rfl rfl rfl rfl ?_
                    refine Agg.chFA fo_Band_0 rfl rfl rfl rfl ?_
                    refine Agg.chLoad rfl rfl rfl rfl (by decide +kernel) HPC.out ?_
                    refine Agg.chLe false (decide_eq_false h3) rfl rfl rfl rfl rfl ?_
                    refine Agg.chPick rfl rfl rfl rfl rfl ?_
                    refine Agg.chPick rfl rfl rfl rfl rfl ?_
                    refine Agg.chMove rfl rfl rfl rfl ?_
                    refine Agg.chFA fo_Band_1 rfl rfl rfl rfl ?_
                    refine Agg.chLoadB HX.out (by decide +kernel) rfl rfl (by rfl) rfl rfl ?_
                    refine Agg.chFA fo_Band_2 rfl rfl rfl rfl ?_
                    refine Agg.chLoadB HX.out (by decide +kernel) rfl rfl (by rfl) rfl rfl ?_
                    refine Agg.chGt true (decide_eq_true h4) rfl rfl rfl rfl rfl ?_
                    refine Agg.chPick rfl rfl rfl rfl rfl ?_
                    refine Agg.chMove rfl rfl rfl rfl ?_
                    refine Agg.chSkip rfl rfl ?_
                    refine Agg.chSkip rfl rfl ?_
                    refine Agg.chSkip rfl rfl ?_
                    refine Agg.chPick rfl rfl rfl rfl rfl ?_
                    refine Agg.chMove rfl rfl rfl rfl ?_
                    refine Agg.chSkip rfl rfl ?_
                    refine Agg.chSkip rfl rfl ?_
                    refine Agg.chSkip rfl rfl ?_
                    refine Agg.chPick rfl rfl rfl rfl rfl ?_
                    refine Agg.chEnd ?_
                    intro vs w25 hb _
                    refine Agg.wpNil ?_
                    simp only [List.reverse, List.reverseAux, Agg.fill, List.set_cons_succ, List.set_cons_zero]
                    replace HB := Lib.hid (HB.out.trans (hb.mono HB.out.size))
                    replace HX := Lib.hid (HX.out.keep hb)
                    clear hb
                    have hqf := HBAD.out (by omega)
                    go_wp2_with fail
                    go_ret
                    exact ⟨by first | rfl | (rw [hqf]; rfl), HB.out⟩
                  · have _v := h4
                    by_cases h5 : lo < -2305844108725321728
                    · have _u := h5
                      refine Agg.chainR 40 (by kernel_rfl) (by kernel_rfl) ?_
                      simp only [List.take_succ_cons, List.take_zero, List.drop_succ_cons, List.drop_zero]
                      refine Agg.chFA fo_Band_0 rfl rfl rfl rfl ?_
                      refine Agg.chLoadB HX.out (by decide +kernel) rfl rfl (by rfl) rfl rfl ?_
                      refine Agg.chLt false (decide_eq_false h1) rfl rfl rfl rfl rfl ?_
                      refine Agg.chMove rfl rfl rfl rfl ?_
                      refine Agg.chFA fo_Band_0 rfl rfl rfl rfl ?_
                      refine Agg.chLoadB HX.out (by decide +kernel) rfl rfl (by rfl) rfl rfl ?_
                      refine Agg.chGt false (decide_eq_false h2) rfl rfl rfl rfl rfl ?_
                      refine Agg.chPick rfl rfl rfl rfl rfl ?_
                      refine Agg.chMove rfl rfl rfl rfl ?_
                      refine Agg.chMove rfl rfl rfl rfl ?_
                      refine Agg.chGt true (decide_eq_true hk0) rfl rfl rfl rfl rfl ?_
                      refine Agg.chMove rfl rfl rfl rfl ?_
                      refine Agg.chFA fo_Band_0 rfl rfl rfl rfl ?_
                      refine Agg.chLoadB HX.out (by decide +kernel) rfl rfl (by rfl) rfl rfl ?_
                      refine Agg.chMove rfl rfl rfl rfl ?_
                      refine Agg.chMove rfl rfl rfl rfl ?_
                      refine Agg.chAr64 rfl rfl rfl rfl (by omega) (by omega) rfl rfl ?_
                      refine Agg.chIA tiBd (by omega) (by omega) rfl rfl rfl rfl rfl ?_
                      refine Agg.chFA fo_Band_0 rfl rfl rfl rfl ?_
                      refine Agg.chLoad rfl rfl rfl rfl (by decide +kernel) HPC.out ?_
                      refine Agg.chLe false (decide_eq_false h3) rfl rfl rfl rfl rfl ?_
                      refine Agg.chPick rfl rfl rfl rfl rfl ?_
                      refine Agg.chPick rfl rfl rfl rfl rfl ?_
                      refine Agg.chMove rfl rfl rfl rfl ?_
                      refine Agg.chFA fo_Band_1 rfl rfl rfl rfl ?_
                      refine Agg.chLoadB HX.out (by decide +kernel) rfl rfl (by rfl) rfl rfl ?_
                      refine Agg.chFA fo_Band_2 rfl rfl rfl rfl ?_
                      refine Agg.chLoadB HX.out (by decide +kernel) rfl rfl (by rfl) rfl rfl ?_
                      refine Agg.chGt false (decide_eq_false h4) rfl rfl rfl rfl rfl ?_
                      refine Agg.chPick rfl rfl rfl rfl rfl ?_
                      refine Agg.chMove rfl rfl rfl rfl ?_
                      refine Agg.chFA fo_Band_1 rfl rfl rfl rfl ?_
                      refine Agg.chLoadB HX.out (by decide +kernel) rfl rfl (by rfl) rfl rfl ?_
                      refine Agg.chLt true (decide_eq_true h5) rfl rfl rfl rfl rfl ?_
                      refine Agg.chPick rfl rfl rfl rfl rfl ?_
                      refine Agg.chMove rfl rfl rfl rfl ?_
                      refine Agg.chSkip rfl rfl ?_
                      refine Agg.chSkip rfl rfl ?_
                      refine Agg.chSkip rfl rfl ?_
                      refine Agg.chPick rfl rfl rfl rfl rfl ?_
                      refine Agg.chEnd ?_
                      intro vs w26 hb _
                      refine Agg.wpNil ?_
                      simp only [List.reverse, List.reverseAux, Agg.fill, List.set_cons_succ, List.set_cons_zero]
                      replace HB := Lib.hid (HB.out.trans (hb.mono HB.out.size))
                      replace HX := Lib.hid (HX.out.keep hb)
                      clear hb
                      have hqf := HBAD.out (by omega)
                      go_wp2_with fail
                      go_ret
                      exact ⟨by first | rfl | (rw [hqf]; rfl), HB.out⟩
                    · have _v := h5
                      by_cases h6 : hi > 2305844108725321728
                      · have _u := h6
                        refine Agg.chainR 40 (by kernel_rfl) (by kernel_rfl) ?_
                        simp only [List.take_succ_cons, List.take_zero, List.drop_succ_cons, List.drop_zero]
                        refine Agg.chFA fo_Band_0 rfl rfl rfl rfl ?_
                        refine Agg.chLoadB HX.out (by decide +kernel) rfl rfl (by rfl) rfl rfl ?_
                        refine Agg.chLt false (decide_eq_false h1) rfl rfl rfl rfl rfl ?_
                        refine Agg.chMove rfl rfl rfl rfl ?_
                        refine Agg.chFA fo_Band_0 rfl rfl rfl rfl ?_
                        refine Agg.chLoadB HX.out (by decide +kernel) rfl rfl (by rfl) rfl rfl ?_
                        refine Agg.chGt false (decide_eq_false h2) rfl rfl rfl rfl rfl ?_
                        refine Agg.chPick rfl rfl rfl rfl rfl ?_
                        refine Agg.chMove rfl rfl rfl rfl ?_
                        refine Agg.chMove rfl rfl rfl rfl ?_
                        refine Agg.chGt true (decide_eq_true hk0) rfl rfl rfl rfl rfl ?_
                        refine Agg.chMove rfl rfl rfl rfl ?_
                        refine Agg.chFA fo_Band_0 rfl rfl rfl rfl ?_
                        refine Agg.chLoadB HX.out (by decide +kernel) rfl rfl (by rfl) rfl rfl ?_
                        refine Agg.chMove rfl rfl rfl rfl ?_
                        refine Agg.chMove rfl rfl rfl rfl ?_
                        refine Agg.chAr64 rfl rfl rfl rfl (by omega) (by omega) rfl rfl ?_
                        refine Agg.chIA tiBd (by omega) (by omega) rfl rfl rfl rfl rfl ?_
                        refine Agg.chFA fo_Band_0 rfl rfl rfl rfl ?_
                        refine Agg.chLoad rfl rfl rfl rfl (by decide +kernel) HPC.out ?_
                        refine Agg.chLe false (decide_eq_false h3) rfl rfl rfl rfl rfl ?_
                        refine Agg.chPick rfl rfl rfl rfl rfl ?_
                        refine Agg.chPick rfl rfl rfl rfl rfl ?_
                        refine Agg.chMove rfl rfl rfl rfl ?_
                        refine Agg.chFA fo_Band_1 rfl rfl rfl rfl ?_
                        refine Agg.chLoadB HX.out (by decide +kernel) rfl rfl (by rfl) rfl rfl ?_
                        refine Agg.chFA fo_Band_2 rfl rfl rfl rfl ?_
                        refine Agg.chLoadB HX.out (by decide +kernel) rfl rfl (by rfl) rfl rfl ?_
                        refine Agg.chGt false (decide_eq_false h4) rfl rfl rfl rfl rfl ?_
                        refine Agg.chPick rfl rfl rfl rfl rfl ?_
                        refine Agg.chMove rfl rfl rfl rfl ?_
                        refine Agg.chFA fo_Band_1 rfl rfl rfl rfl ?_
                        refine Agg.chLoadB HX.out (by decide +kernel) rfl rfl (by rfl) rfl rfl ?_
                        refine Agg.chLt false (decide_eq_false h5) rfl rfl rfl rfl rfl ?_
                        refine Agg.chPick rfl rfl rfl rfl rfl ?_
                        refine Agg.chMove rfl rfl rfl rfl ?_
                        refine Agg.chFA fo_Band_2 rfl rfl rfl rfl ?_
                        refine Agg.chLoadB HX.out (by decide +kernel) rfl rfl (by rfl) rfl rfl ?_
                        refine Agg.chGt true (decide_eq_true h6) rfl rfl rfl rfl rfl ?_
                        refine Agg.chPick rfl rfl rfl rfl rfl ?_
                        refine Agg.chEnd ?_
                        intro vs w27 hb _
                        refine Agg.wpNil ?_
                        simp only [List.reverse, List.reverseAux, Agg.fill, List.set_cons_succ, List.set_cons_zero]
                        replace HB := Lib.hid (HB.out.trans (hb.mono HB.out.size))
                        replace HX := Lib.hid (HX.out.keep hb)
                        clear hb
                        have hqf := HBAD.out (by omega)
                        go_wp2_with fail
                        go_ret
                        exact ⟨by first | rfl | (rw [hqf]; rfl), HB.out⟩
                      · have _v := h6
                        refine Agg.chainR 40 (by kernel_rfl) (by kernel_rfl) ?_
                        simp only [List.take_succ_cons, List.take_zero, List.drop_succ_cons, List.drop_zero]
                        refine Agg.chFA fo_Band_0 rfl rfl rfl rfl ?_
                        refine Agg.chLoadB HX.out (by decide +kernel) rfl rfl (by rfl) rfl rfl ?_
                        refine Agg.chLt false (decide_eq_false h1) rfl rfl rfl rfl rfl ?_
                        refine Agg.chMove rfl rfl rfl rfl ?_
                        refine Agg.chFA fo_Band_0 rfl rfl rfl rfl ?_
                        refine Agg.chLoadB HX.out (by decide +kernel) rfl rfl (by rfl) rfl rfl ?_
                        refine Agg.chGt false (decide_eq_false h2) rfl rfl rfl rfl rfl ?_
                        refine Agg.chPick rfl rfl rfl rfl rfl ?_
                        refine Agg.chMove rfl rfl rfl rfl ?_
                        refine Agg.chMove rfl rfl rfl rfl ?_
                        refine Agg.chGt true (decide_eq_true hk0) rfl rfl rfl rfl rfl ?_
                        refine Agg.chMove rfl rfl rfl rfl ?_
                        refine Agg.chFA fo_Band_0 rfl rfl rfl rfl ?_
                        refine Agg.chLoadB HX.out (by decide +kernel) rfl rfl (by rfl) rfl rfl ?_
                        refine Agg.chMove rfl rfl rfl rfl ?_
                        refine Agg.chMove rfl rfl rfl rfl ?_
                        refine Agg.chAr64 rfl rfl rfl rfl (by omega) (by omega) rfl rfl ?_
                        refine Agg.chIA tiBd (by omega) (by omega) rfl rfl rfl rfl rfl ?_
                        refine Agg.chFA fo_Band_0 rfl rfl rfl rfl ?_
                        refine Agg.chLoad rfl rfl rfl rfl (by decide +kernel) HPC.out ?_
                        refine Agg.chLe false (decide_eq_false h3) rfl rfl rfl rfl rfl ?_
                        refine Agg.chPick rfl rfl rfl rfl rfl ?_
                        refine Agg.chPick rfl rfl rfl rfl rfl ?_
                        refine Agg.chMove rfl rfl rfl rfl ?_
                        refine Agg.chFA fo_Band_1 rfl rfl rfl rfl ?_
                        refine Agg.chLoadB HX.out (by decide +kernel) rfl rfl (by rfl) rfl rfl ?_
                        refine Agg.chFA fo_Band_2 rfl rfl rfl rfl ?_
                        refine Agg.chLoadB HX.out (by decide +kernel) rfl rfl (by rfl) rfl rfl ?_
                        refine Agg.chGt false (decide_eq_false h4) rfl rfl rfl rfl rfl ?_
                        refine Agg.chPick rfl rfl rfl rfl rfl ?_
                        refine Agg.chMove rfl rfl rfl rfl ?_
                        refine Agg.chFA fo_Band_1 rfl rfl rfl rfl ?_
                        refine Agg.chLoadB HX.out (by decide +kernel) rfl rfl (by rfl) rfl rfl ?_
                        refine Agg.chLt false (decide_eq_false h5) rfl rfl rfl rfl rfl ?_
                        refine Agg.chPick rfl rfl rfl rfl rfl ?_
                        refine Agg.chMove rfl rfl rfl rfl ?_
                        refine Agg.chFA fo_Band_2 rfl rfl rfl rfl ?_
                        refine Agg.chLoadB HX.out (by decide +kernel) rfl rfl (by rfl) rfl rfl ?_
                        refine Agg.chGt false (decide_eq_false h6) rfl rfl rfl rfl rfl ?_
                        refine Agg.chPick rfl rfl rfl rfl rfl ?_
                        refine Agg.chEnd ?_
                        intro vs w28 hb _
                        refine Agg.wpNil ?_
                        simp only [List.reverse, List.reverseAux, Agg.fill, List.set_cons_succ, List.set_cons_zero]
                        replace HB := Lib.hid (HB.out.trans (hb.mono HB.out.size))
                        replace HX := Lib.hid (HX.out.keep hb)
                        clear hb
                        have hqt := HGOOD.out (by omega)
                        have HQT := Lib.hid hqt
                        clear hqt
                        go_wp2_with fail
                        exact ⟨⟨k + 1, t, by omega, by go_num, by omega, by omega, HPV.out, HQT.out, HB.out⟩, by simp [intOf]; omega⟩
          · have hp1 := hp0 (by omega)
            by_cases h1 : t < 0
            · have _u := h1
              refine Agg.chainR 40 (by kernel_rfl) (by kernel_rfl) ?_
              simp only [List.take_succ_cons, List.take_zero, List.drop_succ_cons, List.drop_zero]
              refine Agg.chFA fo_Band_0 rfl rfl rfl rfl ?_
              refine Agg.chLoadB HX.out (by decide +kernel) rfl rfl (by rfl) rfl rfl ?_
              refine Agg.chLt true (decide_eq_true h1) rfl rfl rfl rfl rfl ?_
              refine Agg.chMove rfl rfl rfl rfl ?_
              refine Agg.chSkip rfl rfl ?_
              refine Agg.chSkip rfl rfl ?_
              refine Agg.chSkip rfl rfl ?_
              refine Agg.chPick rfl rfl rfl rfl rfl ?_
              refine Agg.chMove rfl rfl rfl rfl ?_
              refine Agg.chSkip rfl rfl ?_
              refine Agg.chSkip rfl rfl ?_
              refine Agg.chSkip rfl rfl ?_
              refine Agg.chSkip rfl rfl ?_
              refine Agg.chSkip rfl rfl ?_
              refine Agg.chSkip rfl rfl ?_
              refine Agg.chSkip rfl rfl ?_
              refine Agg.chSkip rfl rfl ?_
              refine Agg.chSkip rfl rfl ?_
              refine Agg.chSkip rfl rfl ?_
              refine Agg.chSkip rfl rfl ?_
              refine Agg.chSkip rfl rfl ?_
              refine Agg.chSkip rfl rfl ?_
              refine Agg.chPick rfl rfl rfl rfl rfl ?_
              refine Agg.chMove rfl rfl rfl rfl ?_
              refine Agg.chSkip rfl rfl ?_
              refine Agg.chSkip rfl rfl ?_
              refine Agg.chSkip rfl rfl ?_
              refine Agg.chSkip rfl rfl ?_
              refine Agg.chSkip rfl rfl ?_
              refine Agg.chPick rfl rfl rfl rfl rfl ?_
              refine Agg.chMove rfl rfl rfl rfl ?_
              refine Agg.chSkip rfl rfl ?_
              refine Agg.chSkip rfl rfl ?_
              refine Agg.chSkip rfl rfl ?_
              refine Agg.chPick rfl rfl rfl rfl rfl ?_
              refine Agg.chMove rfl rfl rfl rfl ?_
              refine Agg.chSkip rfl rfl ?_
              refine Agg.chSkip rfl rfl ?_
              refine Agg.chSkip rfl rfl ?_
              refine Agg.chPick rfl rfl rfl rfl rfl ?_
              refine Agg.chEnd ?_
              intro vs w29 hb _
              refine Agg.wpNil ?_
              simp only [List.reverse, List.reverseAux, Agg.fill, List.set_cons_succ, List.set_cons_zero]
              replace HB := Lib.hid (HB.out.trans (hb.mono HB.out.size))
              replace HX := Lib.hid (HX.out.keep hb)
              clear hb
              have hqf := HBAD.out (by omega)
              go_wp2_with fail
              go_ret
              exact ⟨by first | rfl | (rw [hqf]; rfl), HB.out⟩
            · have _v := h1
              by_cases h2 : t > 281474976710656
              · have _u := h2
                refine Agg.chainR 40 (by kernel_rfl) (by kernel_rfl) ?_
                simp only [List.take_succ_cons, List.take_zero, List.drop_succ_cons, List.drop_zero]
                refine Agg.chFA fo_Band_0 rfl rfl rfl rfl ?_
                refine Agg.chLoadB HX.out (by decide +kernel) rfl rfl (by rfl) rfl rfl ?_
                refine Agg.chLt false (decide_eq_false h1) rfl rfl rfl rfl rfl ?_
                refine Agg.chMove rfl rfl rfl rfl ?_
                refine Agg.chFA fo_Band_0 rfl rfl rfl rfl ?_
                refine Agg.chLoadB HX.out (by decide +kernel) rfl rfl (by rfl) rfl rfl ?_
                refine Agg.chGt true (decide_eq_true h2) rfl rfl rfl rfl rfl ?_
                refine Agg.chPick rfl rfl rfl rfl rfl ?_
                refine Agg.chMove rfl rfl rfl rfl ?_
                refine Agg.chSkip rfl rfl ?_
                refine Agg.chSkip rfl rfl ?_
                refine Agg.chSkip rfl rfl ?_
                refine Agg.chSkip rfl rfl ?_
                refine Agg.chSkip rfl rfl ?_
                refine Agg.chSkip rfl rfl ?_
                refine Agg.chSkip rfl rfl ?_
                refine Agg.chSkip rfl rfl ?_
                refine Agg.chSkip rfl rfl ?_
                refine Agg.chSkip rfl rfl ?_
                refine Agg.chSkip rfl rfl ?_
                refine Agg.chSkip rfl rfl ?_
                refine Agg.chSkip rfl rfl ?_
                refine Agg.chPick rfl rfl rfl rfl rfl ?_
                refine Agg.chMove rfl rfl rfl rfl ?_
                refine Agg.chSkip rfl rfl ?_
                refine Agg.chSkip rfl rfl ?_
                refine Agg.chSkip rfl rfl ?_
                refine Agg.chSkip rfl rfl ?_
                refine Agg.chSkip rfl rfl ?_
                refine Agg.chPick rfl rfl rfl rfl rfl ?_
                refine Agg.chMove rfl rfl rfl rfl ?_
                refine Agg.chSkip rfl rfl ?_
                refine Agg.chSkip rfl rfl ?_
                refine Agg.chSkip rfl rfl ?_
                refine Agg.chPick rfl rfl rfl rfl rfl ?_
                refine Agg.chMove rfl rfl rfl rfl ?_
                refine Agg.chSkip rfl rfl ?_
                refine Agg.chSkip rfl rfl ?_
                refine Agg.chSkip rfl rfl ?_
                refine Agg.chPick rfl rfl rfl rfl rfl ?_
                refine Agg.chEnd ?_
                intro vs w30 hb _
                refine Agg.wpNil ?_
                simp only [List.reverse, List.reverseAux, Agg.fill, List.set_cons_succ, List.set_cons_zero]
                replace HB := Lib.hid (HB.out.trans (hb.mono HB.out.size))
                replace HX := Lib.hid (HX.out.keep hb)
                clear hb
                have hqf := HBAD.out (by omega)
                go_wp2_with fail
                go_ret
                exact ⟨by first | rfl | (rw [hqf]; rfl), HB.out⟩
              · have _v := h2
                by_cases h4 : lo > hi
                · have _u := h4
                  refine Agg.chainR 40 (by kernel_rfl) (by kernel_rfl) ?_
                  simp only [List.take_succ_cons, List.take_zero, List.drop_succ_cons, List.drop_zero]
                  refine Agg.chFA fo_Band_0 rfl rfl rfl rfl ?_
                  refine Agg.chLoadB HX.out (by decide +kernel) rfl rfl (by rfl) rfl rfl ?_
                  refine Agg.chLt false (decide_eq_false h1) rfl rfl rfl rfl rfl ?_
                  refine Agg.chMove rfl rfl rfl rfl ?_
                  refine Agg.chFA fo_Band_0 rfl rfl rfl rfl ?_
                  refine Agg.chLoadB HX.out (by decide +kernel) rfl rfl (by rfl) rfl rfl ?_
                  refine Agg.chGt false (decide_eq_false h2) rfl rfl rfl rfl rfl ?_
                  refine Agg.chPick rfl rfl rfl rfl rfl ?_
                  refine Agg.chMove rfl rfl rfl rfl ?_
                  refine Agg.chMove rfl rfl rfl rfl ?_
                  refine Agg.chGt false (decide_eq_false hk0) rfl rfl rfl rfl rfl ?_
                  refine Agg.chMove rfl rfl rfl rfl ?_
                  refine Agg.chSkip rfl rfl ?_
                  refine Agg.chSkip rfl rfl ?_
                  refine Agg.chSkip rfl rfl ?_
                  refine Agg.chSkip rfl rfl ?_
                  refine Agg.chSkip rfl rfl ?_
                  refine Agg.chSkip rfl rfl ?_
                  refine Agg.chSkip rfl rfl ?_
                  refine Agg.chSkip rfl rfl ?_
                  refine Agg.chSkip rfl rfl ?_
                  refine Agg.chPick rfl rfl rfl rfl rfl ?_
                  refine Agg.chPick rfl rfl rfl rfl rfl ?_
                  refine Agg.chMove rfl rfl rfl rfl ?_
                  refine Agg.chFA fo_Band_1 rfl rfl rfl rfl ?_
                  refine Agg.chLoadB HX.out (by decide +kernel) rfl rfl (by rfl) rfl rfl ?_
                  refine Agg.chFA fo_Band_2 rfl rfl rfl rfl ?_
                  refine Agg.chLoadB HX.out (by decide +kernel) rfl rfl (by rfl) rfl rfl ?_
                  refine Agg.chGt true (decide_eq_true h4) rfl rfl rfl rfl rfl ?_
                  refine Agg.chPick rfl rfl rfl rfl rfl ?_
                  refine Agg.chMove rfl rfl rfl rfl ?_
                  refine Agg.chSkip rfl rfl ?_
                  refine Agg.chSkip rfl rfl ?_
                  refine Agg.chSkip rfl rfl ?_
                  refine Agg.chPick rfl rfl rfl rfl rfl ?_
                  refine Agg.chMove rfl rfl rfl rfl ?_
                  refine Agg.chSkip rfl rfl ?_
                  refine Agg.chSkip rfl rfl ?_
                  refine Agg.chSkip rfl rfl ?_
                  refine Agg.chPick rfl rfl rfl rfl rfl ?_
                  refine Agg.chEnd ?_
                  intro vs w31 hb _
                  refine Agg.wpNil ?_
                  simp only [List.reverse, List.reverseAux, Agg.fill, List.set_cons_succ, List.set_cons_zero]
                  replace HB := Lib.hid (HB.out.trans (hb.mono HB.out.size))
                  replace HX := Lib.hid (HX.out.keep hb)
                  clear hb
                  have hqf := HBAD.out (by omega)
                  go_wp2_with fail
                  go_ret
                  exact ⟨by first | rfl | (rw [hqf]; rfl), HB.out⟩
                · have _v := h4
                  by_cases h5 : lo < -2305844108725321728
                  · have _u := h5
                    refine Agg.chainR 40 (by kernel_rfl) (by kernel_rfl) ?_
                    simp only [List.take_succ_cons, List.take_zero, List.drop_succ_cons, List.drop_zero]
                    refine Agg.chFA fo_Band_0 rfl rfl rfl rfl ?_
                    refine Agg.chLoadB HX.out (by decide +kernel) rfl rfl (by rfl) rfl rfl ?_
                    refine Agg.chLt false (decide_eq_false h1) rfl rfl rfl rfl rfl ?_
                    refine Agg.chMove rfl rfl rfl rfl ?_
                    refine Agg.chFA fo_Band_0 rfl rfl rfl rfl ?_
                    refine Agg.chLoadB HX.out (by decide +kernel) rfl rfl (by rfl) rfl rfl ?_
                    refine Agg.chGt false (decide_eq_false h2) rfl rfl rfl rfl rfl ?_
                    refine Agg.chPick rfl rfl rfl rfl rfl ?_
                    refine Agg.chMove rfl rfl rfl rfl ?_
                    refine Agg.chMove rfl rfl rfl rfl ?_
                    refine Agg.chGt false (decide_eq_false hk0) rfl rfl rfl rfl rfl ?_
                    refine Agg.chMove rfl rfl rfl rfl ?_
                    refine Agg.chSkip rfl rfl ?_
                    refine Agg.chSkip rfl rfl ?_
                    refine Agg.chSkip rfl rfl ?_
                    refine Agg.chSkip rfl rfl ?_
                    refine Agg.chSkip rfl rfl ?_
                    refine Agg.chSkip rfl rfl ?_
                    refine Agg.chSkip rfl rfl ?_
                    refine Agg.chSkip rfl rfl ?_
                    refine Agg.chSkip rfl rfl ?_
                    refine Agg.chPick rfl rfl rfl rfl rfl ?_
                    refine Agg.chPick rfl rfl rfl rfl rfl ?_
                    refine Agg.chMove rfl rfl rfl rfl ?_
                    refine Agg.chFA fo_Band_1 rfl rfl rfl rfl ?_
                    refine Agg.chLoadB HX.out (by decide +kernel) rfl rfl (by rfl) rfl rfl ?_
                    refine Agg.chFA fo_Band_2 rfl rfl rfl rfl ?_
                    refine Agg.chLoadB HX.out (by decide +kernel) rfl rfl (by rfl) rfl rfl ?_
                    refine Agg.chGt false (decide_eq_false h4) rfl rfl rfl rfl rfl ?_
                    refine Agg.chPick rfl rfl rfl rfl rfl ?_
                    refine Agg.chMove rfl rfl rfl rfl ?_
                    refine Agg.chFA fo_Band_1 rfl rfl rfl rfl ?_
                    refine Agg.chLoadB HX.out (by decide +kernel) rfl rfl (by rfl) rfl rfl ?_
                    refine Agg.chLt true (decide_eq_true h5) rfl rfl rfl rfl rfl ?_
                    refine Agg.chPick rfl rfl rfl rfl rfl ?_
                    refine Agg.chMove rfl rfl rfl rfl ?_
                    refine Agg.chSkip rfl rfl ?_
                    refine Agg.chSkip rfl rfl ?_
                    refine Agg.chSkip rfl rfl ?_
                    refine Agg.chPick rfl rfl rfl rfl rfl ?_
                    refine Agg.chEnd ?_
                    intro vs w32 hb _
                    refine Agg.wpNil ?_
                    simp only [List.reverse, List.reverseAux, Agg.fill, List.set_cons_succ, List.set_cons_zero]
                    replace HB := Lib.hid (HB.out.trans (hb.mono HB.out.size))
                    replace HX := Lib.hid (HX.out.keep hb)
                    clear hb
                    have hqf := HBAD.out (by omega)
                    go_wp2_with fail
                    go_ret
                    exact ⟨by first | rfl | (rw [hqf]; rfl), HB.out⟩
                  · have _v := h5
                    by_cases h6 : hi > 2305844108725321728
                    · have _u := h6
                      refine Agg.chainR 40 (by kernel_rfl) (by kernel_rfl) ?_
                      simp only [List.take_succ_cons, List.take_zero, List.drop_succ_cons, List.drop_zero]
                      refine Agg.chFA fo_Band_0 rfl rfl rfl rfl ?_
                      refine Agg.chLoadB HX.out (by decide +kernel) rfl rfl (by rfl) rfl rfl ?_
                      refine Agg.chLt false (decide_eq_false h1) rfl rfl rfl rfl rfl ?_
                      refine Agg.chMove rfl rfl rfl rfl ?_
                      refine Agg.chFA fo_Band_0 rfl rfl rfl rfl ?_
                      refine Agg.chLoadB HX.out (by decide +kernel) rfl rfl (by rfl) rfl rfl ?_
                      refine Agg.chGt false (decide_eq_false h2) rfl rfl rfl rfl rfl ?_
                      refine Agg.chPick rfl rfl rfl rfl rfl ?_
                      refine Agg.chMove rfl rfl rfl rfl ?_
                      refine Agg.chMove rfl rfl rfl rfl ?_
                      refine Agg.chGt false (decide_eq_false hk0) rfl rfl rfl rfl rfl ?_
                      refine Agg.chMove rfl rfl rfl rfl ?_
                      refine Agg.chSkip rfl rfl ?_
                      refine Agg.chSkip rfl rfl ?_
                      refine Agg.chSkip rfl rfl ?_
                      refine Agg.chSkip rfl rfl ?_
                      refine Agg.chSkip rfl rfl ?_
                      refine Agg.chSkip rfl rfl ?_
                      refine Agg.chSkip rfl rfl ?_
                      refine Agg.chSkip rfl rfl ?_
                      refine Agg.chSkip rfl rfl ?_
                      refine Agg.chPick rfl rfl rfl rfl rfl ?_
                      refine Agg.chPick rfl rfl rfl rfl rfl ?_
                      refine Agg.chMove rfl rfl rfl rfl ?_
                      refine Agg.chFA fo_Band_1 rfl rfl rfl rfl ?_
                      refine Agg.chLoadB HX.out (by decide +kernel) rfl rfl (by rfl) rfl rfl ?_
                      refine Agg.chFA fo_Band_2 rfl rfl rfl rfl ?_
                      refine Agg.chLoadB HX.out (by decide +kernel) rfl rfl (by rfl) rfl rfl ?_
                      refine Agg.chGt false (decide_eq_false h4) rfl rfl rfl rfl rfl ?_
                      refine Agg.chPick rfl rfl rfl rfl rfl ?_
                      refine Agg.chMove rfl rfl rfl rfl ?_
                      refine Agg.chFA fo_Band_1 rfl rfl rfl rfl ?_
                      refine Agg.chLoadB HX.out (by decide +kernel) rfl rfl (by rfl) rfl rfl ?_
                      refine Agg.chLt false (decide_eq_false h5) rfl rfl rfl rfl rfl ?_
                      refine Agg.chPick rfl rfl rfl rfl rfl ?_
                      refine Agg.chMove rfl rfl rfl rfl ?_
                      refine Agg.chFA fo_Band_2 rfl rfl rfl rfl ?_
                      refine Agg.chLoadB HX.out (by decide +kernel) rfl rfl (by rfl) rfl rfl ?_
                      refine Agg.chGt true (decide_eq_true h6) rfl rfl rfl rfl rfl ?_
                      refine Agg.chPick rfl rfl rfl rfl rfl ?_
                      refine Agg.chEnd ?_
                      intro vs w33 hb _
                      refine Agg.wpNil ?_
                      simp only [List.reverse, List.reverseAux, Agg.fill, List.set_cons_succ, List.set_cons_zero]
                      replace HB := Lib.hid (HB.out.trans (hb.mono HB.out.size))
                      replace HX := Lib.hid (HX.out.keep hb)
                      clear hb
                      have hqf := HBAD.out (by omega)
                      go_wp2_with fail
                      go_ret
                      exact ⟨by first | rfl | (rw [hqf]; rfl), HB.out⟩
                    · have _v := h6
                      refine Agg.chainR 40 (by kernel_rfl) (by kernel_rfl) ?_
                      simp only [List.take_succ_cons, List.take_zero, List.drop_succ_cons, List.drop_zero]
                      refine Agg.chFA fo_Band_0 rfl rfl rfl rfl ?_
                      refine Agg.chLoadB HX.out (by decide +kernel) rfl rfl (by rfl) rfl rfl ?_
                      refine Agg.chLt false (decide_eq_false h1) rfl rfl rfl rfl rfl ?_
                      refine Agg.chMove rfl rfl rfl rfl ?_
                      refine Agg.chFA fo_Band_0 rfl rfl rfl rfl ?_
                      refine Agg.chLoadB HX.out (by decide +kernel) rfl rfl (by rfl) rfl rfl ?_
                      refine Agg.chGt false (decide_eq_false h2) rfl rfl rfl rfl rfl ?_
                      refine Agg.chPick rfl rfl rfl rfl rfl ?_
                      refine Agg.chMove rfl rfl rfl rfl ?_
                      refine Agg.chMove rfl rfl rfl rfl ?_
                      refine Agg.chGt false (decide_eq_false hk0) rfl rfl rfl rfl rfl ?_
                      refine Agg.chMove rfl rfl rfl rfl ?_
                      refine Agg.chSkip rfl rfl ?_
                      refine Agg.chSkip rfl rfl ?_
                      refine Agg.chSkip rfl rfl ?_
                      refine Agg.chSkip rfl rfl ?_
                      refine Agg.chSkip rfl rfl ?_
                      refine Agg.chSkip rfl rfl ?_
                      refine Agg.chSkip rfl rfl ?_
                      refine Agg.chSkip rfl rfl ?_
                      refine Agg.chSkip rfl rfl ?_
                      refine Agg.chPick rfl rfl rfl rfl rfl ?_
                      refine Agg.chPick rfl rfl rfl rfl rfl ?_
                      refine Agg.chMove rfl rfl rfl rfl ?_
                      refine Agg.chFA fo_Band_1 rfl rfl rfl rfl ?_
                      refine Agg.chLoadB HX.out (by decide +kernel) rfl rfl (by rfl) rfl rfl ?_
                      refine Agg.chFA fo_Band_2 rfl rfl rfl rfl ?_
                      refine Agg.chLoadB HX.out (by decide +kernel) rfl rfl (by rfl) rfl rfl ?_
                      refine Agg.chGt false (decide_eq_false h4) rfl rfl rfl rfl rfl ?_
                      refine Agg.chPick rfl rfl rfl rfl rfl ?_
                      refine Agg.chMove rfl rfl rfl rfl ?_
                      refine Agg.chFA fo_Band_1 rfl rfl rfl rfl ?_
                      refine Agg.chLoadB HX.out (by decide +kernel) rfl rfl (by rfl) rfl rfl ?_
                      refine Agg.chLt false (decide_eq_false h5) rfl rfl rfl rfl rfl ?_
                      refine Agg.chPick rfl rfl rfl rfl rfl ?_
                      refine Agg.chMove rfl rfl rfl rfl ?_
                      refine Agg.chFA fo_Band_2 rfl rfl rfl rfl ?_
                      refine Agg.chLoadB HX.out (by decide +kernel) rfl rfl (by rfl) rfl rfl ?_
                      refine Agg.chGt false (decide_eq_false h6) rfl rfl rfl rfl rfl ?_
                      refine Agg.chPick rfl rfl rfl rfl rfl ?_
                      refine Agg.chEnd ?_
                      intro vs w34 hb _
                      refine Agg.wpNil ?_
                      simp only [List.reverse, List.reverseAux, Agg.fill, List.set_cons_succ, List.set_cons_zero]
                      replace HB := Lib.hid (HB.out.trans (hb.mono HB.out.size))
                      replace HX := Lib.hid (HX.out.keep hb)
                      clear hb
                      have hqt := HGOOD.out (by omega)
                      have HQT := Lib.hid hqt
                      clear hqt
                      go_wp2_with fail
                      exact ⟨⟨k + 1, t, by omega, by go_num, by omega, by omega, HPV.out, HQT.out, HB.out⟩, by simp [intOf]; omega⟩
        · obtain rfl : k = l.length := by omega
          have hqt : q = true := by have := HC.out; rw [List.drop_length] at this; exact this.symm
          go_wp2_with fail
          go_ret
          exact ⟨by first | rfl | (rw [hqt]; rfl), HB.out⟩
end Go.Proofs.Ytchpkgneloiidaa
