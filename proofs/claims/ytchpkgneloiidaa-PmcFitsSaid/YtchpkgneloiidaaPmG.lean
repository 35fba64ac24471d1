/-
  THE WALK OF LAYER 8's STATEMENT PmcPairs.
-/
import Derived.Test.YtchpkgneloiidaaPmF
namespace Pm
def apB (a b : Bd) : Bool := decide (a.2.1 > b.2.2) || decide (b.2.1 > a.2.2)
def ap1 (a : Bd) (m : List Bd) : Bool := m.any (apB a)
def apL (l : List Bd) (i : Nat) : Bool := (List.range i).any fun p => match l[p]? with
  | some a => ap1 a (l.take p)
  | none => false
theorem apL_step (l : List Bd) (i : Nat) (h : i < l.length) : apL l (i + 1) = (apL l i || ap1 l[i] (l.take i)) := by
  unfold apL
  rw [List.range_succ, List.any_append]
  simp [List.getElem?_eq_getElem h]
theorem ap1_step (a : Bd) (m : List Bd) (j : Nat) (h : j < m.length) : ap1 a (m.take (j + 1)) = (ap1 a (m.take j) || apB a m[j]) := by
  unfold ap1
  rw [List.take_succ_eq_append_getElem h, List.any_append]
  simp
theorem apL_true {l : List Bd} (h : apL l l.length = true) (v : Int) : ¬ Thr l v := by
  unfold apL at h
  obtain ⟨p, hp, h2⟩ := List.any_eq_true.1 h
  have hp2 := List.mem_range.1 hp
  rw [List.getElem?_eq_getElem hp2] at h2
  simp only at h2
  obtain ⟨b, hb, h3⟩ := List.any_eq_true.1 h2
  intro ht
  have h4 := ht _ (List.getElem_mem hp2)
  have h5 := ht b (List.mem_of_mem_take hb)
  simp only [apB, Bool.or_eq_true, decide_eq_true_eq] at h3
  omega
theorem max_lo : ∀ (l : List Bd), l ≠ [] → ∃ b ∈ l, ∀ c ∈ l, c.2.1 ≤ b.2.1
  | [], h => absurd rfl h
  | [a], _ => ⟨a, by simp, fun c hc => by simp at hc; subst hc; exact Int.le_refl _⟩
  | a :: b :: l, _ => by
    obtain ⟨m, h1, h2⟩ := max_lo (b :: l) (by simp)
    by_cases h : m.2.1 ≤ a.2.1
    · exact ⟨a, by simp, fun c hc => by
        rcases List.mem_cons.1 hc with rfl | hc
        · exact Int.le_refl _
        · have := h2 c hc; omega⟩
    · exact ⟨m, List.mem_cons_of_mem _ h1, fun c hc => by
        rcases List.mem_cons.1 hc with rfl | hc
        · omega
        · exact h2 c hc⟩
theorem apL_false {l : List Bd} (h : apL l l.length = false) (hne : l ≠ []) (hok : Okb l) : ∃ v, Thr l v := by
  have hp : ∀ p q (hp : p < l.length) (hq : q < p), apB l[p] (l[q]'(Nat.lt_trans hq hp)) = false := fun p q hp hq => by
    unfold apL at h
    have h2 := List.any_eq_false.1 h p (List.mem_range.2 hp)
    rw [List.getElem?_eq_getElem hp] at h2
    simp only [Bool.not_eq_true] at h2
    have h3 := List.any_eq_false.1 h2 (l[q]'(Nat.lt_trans hq hp)) (List.mem_iff_getElem.2 ⟨q, by rw [List.length_take]; omega, by rw [List.getElem_take]⟩)
    simpa using h3
  obtain ⟨b, hb, hm⟩ := max_lo l hne
  refine ⟨b.2.1, fun c hc => ⟨hm c hc, ?_⟩⟩
  obtain ⟨p, hpl, rfl⟩ := List.mem_iff_getElem.1 hb
  obtain ⟨q, hql, rfl⟩ := List.mem_iff_getElem.1 hc
  rcases Nat.lt_trichotomy p q with h1 | h1 | h1
  · have := hp q p hql h1
    simp only [apB, Bool.or_eq_false_iff, decide_eq_false_iff_not] at this
    omega
  · subst h1
    exact (hok _ hb).1
  · have := hp p q hpl h1
    simp only [apB, Bool.or_eq_false_iff, decide_eq_false_iff_not] at this
    omega
end Pm
namespace Go.Proofs.Ytchpkgneloiidaa
open Go.ChangeShapes Go.WideShapes Go.ChangeAt Go.RowKit Agg Pg Pm
attribute [local go_sem] Oper.semAt_some

theorem com_in {l : List Bd} (h : checkB l = true) {v : Int} (hv : Thr l v) : -maxB ≤ v ∧ v ≤ maxB := by
  obtain ⟨a1, a2, a3, a4⟩ := check_len h
  cases l with
  | nil => simp at a1
  | cons b l => have := hv b (by simp); have := a4 b (by simp); omega
set_option maxHeartbeats 4000000 in
set_option maxRecDepth 100000 in
theorem pairs_walk (l : List Bd) (v : Value) (w : World) (hl : Bds w v l) :
    Calls Try.prog 9 #[v] w fun e w' => e = .returned (.bool true) ∧ Below w.heap.size w w' := by
  obtain ⟨x, cap, rfl, _⟩ := SlR.shape hl
  have HL := Lib.hid hl
  clear hl
  have HB := Lib.hid (Below.refl w.heap.size w)
  go_enter Try.func9, Try.ntmps9
  go_wp2_with fail
  refine (wakes_any w).mono ?_
  rintro e w1 ⟨rfl, hb⟩
  replace HB := Lib.hid (HB.out.trans (hb.mono HB.out.size))
  replace HL := Lib.hid (HL.out.keep hb)
  clear hb
  go_wp2_with fail
  refine (few_any l _ w1 HL.out).mono ?_
  rintro e w2 ⟨u, rfl, hu, hb⟩
  replace HB := Lib.hid (HB.out.trans (hb.mono HB.out.size))
  replace HL := Lib.hid (HL.out.keep hb)
  clear hb
  have HU0 : Hid (Bds w2 u (few257 l)) := Lib.hid (own_bds hu)
  have hfl := few_le l
  clear hu HL
  generalize few257 l = L0 at *
  obtain ⟨ux, uc, rfl, huc, _⟩ := SlR.shape HU0.out
  obtain ⟨m, hmd⟩ : ∃ m, m = min L0.length 60 := ⟨_, rfl⟩
  have hm1 : m ≤ L0.length := by omega
  have hm2 : m ≤ 60 := by omega
  have hme : min (L0.length : Int) 60 = (m : Int) := by omega
  have hmuc : (m : Int) ≤ uc := by omega
  have hs0 := bds_take HU0.out m hm1
  have hle : (L0.take m).length = m := by rw [List.length_take]; omega
  have HU := Lib.hid hs0
  clear hs0 hmd HU0
  go_wp2_with (refine Agg.min2 _ _ _ (m : Int) rfl rfl rfl rfl hme ?_; simp only [Act.put, List.setIfInBounds_toArray, List.set_cons_succ, List.set_cons_zero])
  obtain ⟨L, hL⟩ : ∃ L, L0.take m = L := ⟨_, rfl⟩
  rw [hL] at HU hle
  subst hle
  clear hme hL
  obtain ⟨q, hq⟩ : ∃ q, checkB L = q := ⟨_, rfl⟩
  have HQ := Lib.hid hq
  clear hq
  refine (chkB_any L _ w2 HU.out q HQ.out).mono ?_
  rintro e w3 ⟨rfl, hb⟩
  replace HB := Lib.hid (HB.out.trans (hb.mono HB.out.size))
  replace HU := Lib.hid (HU.out.keep hb)
  clear hb
  cases q
  · go_wp2_with fail
    go_ret
    exact ⟨rfl, HB.out⟩
  · have hck := check_len HQ.out
    have HOK := Lib.hid hck.2.2.2
    have hL1 := hck.1
    have hne : L ≠ [] := fun e => by subst e; simp at hL1
    have HNE := Lib.hid hne
    clear hck hne
    obtain ⟨wZ, hwZ⟩ : ∃ x, x = w3 := ⟨_, rfl⟩
    subst hwZ
    have HUZ := HU
    have HBZ := HB
    clear HU HB
    obtain ⟨b, o, cap', hve, _, _, _, _⟩ := SlR.pos HUZ.out (by decide) (by omega)
    simp only [Value.slice.injEq, true_and] at hve
    obtain ⟨rfl, rfl⟩ := hve
    go_wp2_with fail
    go_loopw [4, 27] (fun s4 ix wr => ∃ (i : Nat), i ≤ L.length ∧ ix = .int .i64 i ∧ s4 = .bool (apL L i) ∧ Below wZ.heap.size wZ wr) (fun _ ix _ => L.length - (intOf ix).toNat)
    case atStart => exact ⟨0, by omega, rfl, rfl, Below.refl _ _⟩
    case round =>
      obtain ⟨i, hi, rfl, rfl, hb⟩ := hrel
      have HFZ : Hid (From wZ wr) := Lib.hid hb
      clear hb
      obtain ⟨wA, hwA⟩ : ∃ x, x = wr := ⟨_, rfl⟩
      subst hwA
      by_cases hlt : i < L.length
      · have hrow := flat_at bdC 3 (by decide) (SlR.keep HUZ.out HFZ.out) (fun b hb => rfl) hlt
        have hst := apL_step L i hlt
        obtain ⟨⟨t, lo, hi2⟩, hr⟩ : ∃ r, L[i]'hlt = r := ⟨_, rfl⟩
        rw [hr] at hrow hst
        have HST := Lib.hid hst
        clear hr hst
        go_upto_region 11 with (first
          | (refine Agg.gLoad 3 [.int .i64 t, .int .i64 lo, .int .i64 hi2] rfl rfl rfl (by decide +kernel) rfl hrow ?_; simp only [Act.put, List.setIfInBounds_toArray, List.set_cons_succ, List.set_cons_zero])
          | (refine Agg.allocRow 36 #[.int .i64 0, .int .i64 0, .int .i64 0] rfl rfl (by kernel_rfl) ?_; simp only [Act.put, List.setIfInBounds_toArray, List.set_cons_succ, List.set_cons_zero])
          | (refine Agg.gStoreNew 3 [.int .i64 t, .int .i64 lo, .int .i64 hi2] rfl rfl rfl rfl rfl rfl (by decide +kernel) rfl rfl rfl ?_; simp only [Act.put]))
        clear hrow
        have HB := Lib.hid (HBZ.out.trans (HFZ.out.mono HBZ.out.size))
        refine Agg.wp_at fun w21 hw21 => ?_
        have hb : Below wA.heap.size wA w21 := by rw [hw21.out]; repeat (first | exact Below.refl _ _ | refine Agg.bel_drew ?_ | refine Agg.bel_alloc ?_ _)
        replace HB := Lib.hid (HB.out.trans (hb.mono HB.out.size))
        replace HFZ := Lib.hid (HFZ.out.keep hb)
        clear hb
        have HX : Hid (Blk w21 wA.heap.size 36 [.int .i64 t, .int .i64 lo, .int .i64 hi2]) := by show Blk _ _ _ _; rw [hw21.out]; exact Blk.new wA 36 #[.int .i64 t, .int .i64 lo, .int .i64 hi2]
        clear hw21 HB
        generalize wA.heap.size = gx at *
        have hicc : (i : Int) ≤ uc := by omega
        obtain ⟨wB, hwB⟩ : ∃ x, x = w21 := ⟨_, rfl⟩
        subst hwB
        go_wp2_with fail
        obtain ⟨q0, hq0⟩ : ∃ q, apL L i = q := ⟨_, rfl⟩
        rw [hq0] at HST ⊢
        clear hq0
        go_loopw [4, 36] (fun s4 jx wr => ∃ (j : Nat), j ≤ i ∧ jx = .int .i64 j ∧ s4 = .bool (q0 || ap1 (t, lo, hi2) (L.take j)) ∧ Below wB.heap.size wB wr) (fun _ jx _ => i - (intOf jx).toNat)
        case atStart => exact ⟨0, by omega, rfl, by simp [ap1], Below.refl _ _⟩
        case round =>
          obtain ⟨j, hj, rfl, rfl, hb⟩ := hrel
          have HFB : Hid (From wB wr) := Lib.hid hb
          have HFJ := Lib.hid (HFZ.out.trans (hb.mono HFZ.out.size))
          have HXJ := Lib.hid (HX.out.keep hb)
          clear hb
          obtain ⟨wC, hwC⟩ : ∃ x, x = wr := ⟨_, rfl⟩
          subst hwC
          by_cases hjl : j < i
          · have hjL : j < L.length := by omega
            have hrow := flat_at bdC 3 (by decide) (SlR.keep HUZ.out HFJ.out) (fun b hb => rfl) hjL
            have hst := ap1_step (t, lo, hi2) L j hjL
            obtain ⟨⟨t3, lo3, hi3⟩, hr⟩ : ∃ r, L[j]'hjL = r := ⟨_, rfl⟩
            rw [hr] at hrow hst
            have HSJ := Lib.hid hst
            clear hr hst
            go_upto_region 14 with (first
              | (refine Agg.gLoad 3 [.int .i64 t3, .int .i64 lo3, .int .i64 hi3] rfl rfl rfl (by decide +kernel) rfl hrow ?_; simp only [Act.put, List.setIfInBounds_toArray, List.set_cons_succ, List.set_cons_zero])
              | (refine Agg.allocRow 36 #[.int .i64 0, .int .i64 0, .int .i64 0] rfl rfl (by kernel_rfl) ?_; simp only [Act.put, List.setIfInBounds_toArray, List.set_cons_succ, List.set_cons_zero])
              | (refine Agg.gStoreNew 3 [.int .i64 t3, .int .i64 lo3, .int .i64 hi3] rfl rfl rfl rfl rfl rfl (by decide +kernel) rfl rfl rfl ?_; simp only [Act.put]))
            clear hrow
            have HB := Lib.hid ((HBZ.out.trans (HFZ.out.mono HBZ.out.size)).trans (HFB.out.mono (Nat.le_trans HBZ.out.size HFZ.out.size)))
            refine Agg.wp_at fun w41 hw41 => ?_
            have hb : Below wC.heap.size wC w41 := by rw [hw41.out]; repeat (first | exact Below.refl _ _ | refine Agg.bel_drew ?_ | refine Agg.bel_alloc ?_ _)
            replace HB := Lib.hid (HB.out.trans (hb.mono HB.out.size))
            replace HFB := Lib.hid (HFB.out.keep hb)
            replace HXJ := Lib.hid (HXJ.out.keep hb)
            clear hb
            have HY : Hid (Blk w41 wC.heap.size 36 [.int .i64 t3, .int .i64 lo3, .int .i64 hi3]) := by show Blk _ _ _ _; rw [hw41.out]; exact Blk.new wC 36 #[.int .i64 t3, .int .i64 lo3, .int .i64 hi3]
            clear hw41 HB
            generalize wC.heap.size = gy at *
            have x1 := HXJ.out.cell 1
            have x2 := HXJ.out.cell 2
            have y1 := HY.out.cell 1
            have y2 := HY.out.cell 2
            simp only [List.getElem?_cons_succ, List.getElem?_cons_zero] at x1 x2 y1 y2
            have hsj := HSJ.out
            obtain ⟨q1, hq1⟩ : ∃ q, ap1 (t, lo, hi2) (L.take j) = q := ⟨_, rfl⟩
            rw [hq1] at hsj ⊢
            clear hq1 HSJ
            unfold apB at hsj
            simp only at hsj
            have HSJ := Lib.hid hsj
            clear hsj
            obtain ⟨qq, hqq⟩ : ∃ q, (q0 || q1) = q := ⟨_, rfl⟩
            have HQQ := Lib.hid hqq
            rw [hqq]
            clear hqq
            cases qq
            · by_cases d1 : lo > hi3
              · go_wp2_with fail
                exact ⟨⟨j + 1, by omega, by go_num, by rw [HSJ.out, decide_eq_true d1]; simp, HFB.out⟩, by simp [intOf]; omega⟩
              · by_cases d2 : lo3 > hi2
                · go_wp2_with fail
                  exact ⟨⟨j + 1, by omega, by go_num, by rw [HSJ.out, decide_eq_true d2]; simp, HFB.out⟩, by simp [intOf]; omega⟩
                · go_wp2_with fail
                  exact ⟨⟨j + 1, by omega, by go_num, by rw [HSJ.out, decide_eq_false d1, decide_eq_false d2, Bool.or_false, Bool.or_false, HQQ.out], HFB.out⟩, by simp [intOf]; omega⟩
            · go_wp2_with fail
              exact ⟨⟨j + 1, by omega, by go_num, by rw [HSJ.out, ← Bool.or_assoc, HQQ.out, Bool.true_or], HFB.out⟩, by simp [intOf]; omega⟩
          · obtain rfl : j = i := by omega
            rw [← HST.out]
            go_wp2_with fail
            exact ⟨⟨j + 1, by omega, by go_num, rfl, HFJ.out⟩, by simp [intOf]; omega⟩
      · obtain rfl : i = L.length := by omega
        have HU := Lib.hid (SlR.keep HUZ.out HFZ.out)
        have HB := Lib.hid (HBZ.out.trans (HFZ.out.mono HBZ.out.size))
        obtain ⟨q, hq⟩ : ∃ q, apL L L.length = q := ⟨_, rfl⟩
        have HA := Lib.hid hq
        rw [hq]
        clear hq HFZ HUZ HBZ
        cases q
        · obtain ⟨v0, hv0⟩ := apL_false HA.out HNE.out HOK.out
          obtain ⟨⟨s1, s2⟩, p1, p2, p3, p4, p5⟩ := com_yes HQ.out v0 hv0
          simp only at p2 p3
          have b1 := com_in HQ.out ((p3 s1).1 ⟨Int.le_refl _, p2⟩)
          have b2 := com_in HQ.out ((p3 s2).1 ⟨p2, Int.le_refl _⟩)
          have hmi := midI_in (s1, s2) p2
          have hmid : midI (s1, s2) = s1 + (s2 - s1) / 2 := rfl
          simp only at hmi
          have HF := Lib.hid (fit_yes p1)
          have HCM := Lib.hid p1
          obtain ⟨z, hz⟩ : ∃ z, midI (s1, s2) = z := ⟨_, rfl⟩
          rw [hz] at HF hmid hmi
          have t1 : thrB L z = true := (thrB_iff _ _).2 ((p3 z).1 hmi)
          have t2 : thrB L s1 = true := (thrB_iff _ _).2 ((p3 s1).1 ⟨Int.le_refl _, p2⟩)
          have t3 : thrB L s2 = true := (thrB_iff _ _).2 ((p3 s2).1 ⟨p2, Int.le_refl _⟩)
          have t4 : thrB L (s1 - 1) = false := by
            cases h : thrB L (s1 - 1) with
            | false => rfl
            | true => have := (p3 _).2 ((thrB_iff _ _).1 h); omega
          have t5 : thrB L (s2 + 1) = false := by
            cases h : thrB L (s2 + 1) with
            | false => rfl
            | true => have := (p3 _).2 ((thrB_iff _ _).1 h); omega
          have T1 := Lib.hid t1
          have T2 := Lib.hid t2
          have T3 := Lib.hid t3
          have T4 := Lib.hid t4
          have T5 := Lib.hid t5
          unfold maxB at b1 b2
          have HMID := Lib.hid hmid
          clear hv0 p1 p3 p4 p5 t1 t2 t3 t4 t5 HA HNE HOK hz hmid
          go_wp2_with fail
          refine (fit_any L _ wA HU.out (com_ok _) z 0 HF.out).mono ?_
          rintro e w61 ⟨rfl, hb⟩
          replace HB := Lib.hid (HB.out.trans (hb.mono HB.out.size))
          replace HU := Lib.hid (HU.out.keep hb)
          clear hb
          go_wp2_with fail
          refine (common_any L _ w61 HU.out (s1, s2) 0 HCM.out).mono ?_
          rintro e w62 ⟨rfl, hb⟩
          replace HB := Lib.hid (HB.out.trans (hb.mono HB.out.size))
          replace HU := Lib.hid (HU.out.keep hb)
          clear hb
          go_upto_region 21 with (first
            | (refine Agg.allocRow 26 #[.int .i64 0, .int .i64 0] rfl rfl (by kernel_rfl) ?_; simp only [Act.put, List.setIfInBounds_toArray, List.set_cons_succ, List.set_cons_zero])
            | (refine Agg.gStoreNew 2 [.int .i64 s1, .int .i64 s2] rfl rfl rfl rfl rfl rfl (by decide +kernel) rfl rfl rfl ?_; simp only [Act.put]))
          refine Agg.wp_at fun w63 hw63 => ?_
          have hb : Below w62.heap.size w62 w63 := by rw [hw63.out]; repeat (first | exact Below.refl _ _ | refine Agg.bel_drew ?_ | refine Agg.bel_alloc ?_ _)
          replace HB := Lib.hid (HB.out.trans (hb.mono HB.out.size))
          replace HU := Lib.hid (HU.out.keep hb)
          clear hb
          have HX : Hid (Blk w63 w62.heap.size 26 [.int .i64 s1, .int .i64 s2]) := by show Blk _ _ _ _; rw [hw63.out]; exact Blk.new w62 26 #[.int .i64 s1, .int .i64 s2]
          clear hw63
          generalize w62.heap.size = gx at *
          refine Agg.listR 40 (by kernel_rfl) ?_
          simp only [List.take_succ_cons, List.take_zero, List.drop_succ_cons, List.drop_zero]
          refine Agg.chMove rfl rfl rfl rfl ?_
          refine Agg.chNe false rfl rfl rfl rfl rfl rfl ?_
          refine Agg.chMove rfl rfl rfl rfl ?_
          refine Agg.chMove rfl rfl rfl rfl ?_
          refine Agg.chNe false rfl rfl rfl rfl rfl rfl ?_
          refine Agg.chPick rfl rfl rfl rfl rfl ?_
          refine Agg.chMove rfl rfl rfl rfl ?_
          refine Agg.chMove rfl rfl rfl rfl ?_
          refine Agg.chMove rfl rfl rfl rfl ?_
          refine Agg.chCall Try.func25 rfl (by kernel_rfl) rfl rfl rfl rfl (fun W hb => through_any L _ z W (SlR.keep HU.out hb) true T1.out) ?_
          refine Agg.chNot rfl rfl rfl rfl ?_
          refine Agg.chPick rfl rfl rfl rfl rfl ?_
          refine Agg.chMove rfl rfl rfl rfl ?_
          refine Agg.chMove rfl rfl rfl rfl ?_
          refine Agg.chFA fo_Span_0 rfl rfl rfl rfl ?_
          refine Agg.chLoadB HX.out (by decide +kernel) rfl rfl (by rfl) rfl rfl ?_
          refine Agg.chCall Try.func25 rfl (by kernel_rfl) rfl rfl rfl rfl (fun W hb => through_any L _ s1 W (SlR.keep HU.out hb) true T2.out) ?_
          refine Agg.chNot rfl rfl rfl rfl ?_
          refine Agg.chPick rfl rfl rfl rfl rfl ?_
          refine Agg.chMove rfl rfl rfl rfl ?_
          refine Agg.chMove rfl rfl rfl rfl ?_
          refine Agg.chFA fo_Span_1 rfl rfl rfl rfl ?_
          refine Agg.chLoadB HX.out (by decide +kernel) rfl rfl (by rfl) rfl rfl ?_
          refine Agg.chCall Try.func25 rfl (by kernel_rfl) rfl rfl rfl rfl (fun W hb => through_any L _ s2 W (SlR.keep HU.out hb) true T3.out) ?_
          refine Agg.chNot rfl rfl rfl rfl ?_
          refine Agg.chPick rfl rfl rfl rfl rfl ?_
          refine Agg.chMove rfl rfl rfl rfl ?_
          refine Agg.chMove rfl rfl rfl rfl ?_
          refine Agg.chFA fo_Span_0 rfl rfl rfl rfl ?_
          refine Agg.chLoadB HX.out (by decide +kernel) rfl rfl (by rfl) rfl rfl ?_
          refine Agg.chAr64 rfl rfl rfl rfl (by omega) (by omega) rfl rfl ?_
          refine Agg.chCall Try.func25 rfl (by kernel_rfl) rfl rfl rfl rfl (fun W hb => through_any L _ (s1 - 1) W (SlR.keep HU.out hb) false T4.out) ?_
          refine Agg.chPick rfl rfl rfl rfl rfl ?_
          refine Agg.chMove rfl rfl rfl rfl ?_
          refine Agg.chMove rfl rfl rfl rfl ?_
          refine Agg.chFA fo_Span_1 rfl rfl rfl rfl ?_
          refine Agg.chLoadB HX.out (by decide +kernel) rfl rfl (by rfl) rfl rfl ?_
          refine Agg.chAr64 rfl rfl rfl rfl (by omega) (by omega) rfl rfl ?_
          refine Agg.chCall Try.func25 rfl (by kernel_rfl) rfl rfl rfl rfl (fun W hb => through_any L _ (s2 + 1) W (SlR.keep HU.out hb) false T5.out) ?_
          refine Agg.chPick rfl rfl rfl rfl rfl ?_
          refine Agg.chEnd ?_
          intro vs w64 hb _
          show Exit.then _ _ Exit.normal _ _
          simp only [List.reverse, List.reverseAux, Agg.fill, List.set_cons_succ, List.set_cons_zero]
          replace HB := Lib.hid (HB.out.trans (hb.mono HB.out.size))
          replace HU := Lib.hid (HU.out.keep hb)
          replace HX := Lib.hid (HX.out.keep hb)
          clear hb
          go_upto_region 23 with (fail)
          have hmid := HMID.out
          by_cases d : z - s1 = s2 - z
          · refine Agg.listR 22 (by kernel_rfl) ?_
            simp only [List.take_succ_cons, List.take_zero, List.drop_succ_cons, List.drop_zero]
            refine Agg.chMove rfl rfl rfl rfl ?_
            refine Agg.chFA fo_Span_0 rfl rfl rfl rfl ?_
            refine Agg.chLoadB HX.out (by decide +kernel) rfl rfl (by rfl) rfl rfl ?_
            refine Agg.chAr64 rfl rfl rfl rfl (by omega) (by omega) rfl rfl ?_
            refine Agg.chFA fo_Span_1 rfl rfl rfl rfl ?_
            refine Agg.chLoadB HX.out (by decide +kernel) rfl rfl (by rfl) rfl rfl ?_
            refine Agg.chMove rfl rfl rfl rfl ?_
            refine Agg.chAr64 rfl rfl rfl rfl (by omega) (by omega) rfl rfl ?_
            refine Agg.chEq true (beq_iff_eq.2 d) rfl rfl rfl rfl rfl ?_
            refine Agg.chMove rfl rfl rfl rfl ?_
            refine Agg.chSkip rfl rfl ?_
            refine Agg.chSkip rfl rfl ?_
            refine Agg.chSkip rfl rfl ?_
            refine Agg.chSkip rfl rfl ?_
            refine Agg.chSkip rfl rfl ?_
            refine Agg.chSkip rfl rfl ?_
            refine Agg.chSkip rfl rfl ?_
            refine Agg.chSkip rfl rfl ?_
            refine Agg.chSkip rfl rfl ?_
            refine Agg.chSkip rfl rfl ?_
            refine Agg.chPick rfl rfl rfl rfl rfl ?_
            refine Agg.chAssign rfl rfl rfl rfl ?_
            refine Agg.chEnd ?_
            intro vs w65 hb _
            show Exit.then _ _ Exit.normal _ _
            simp only [List.reverse, List.reverseAux, Agg.fill, List.set_cons_succ, List.set_cons_zero]
            replace HB := Lib.hid (HB.out.trans (hb.mono HB.out.size))
            replace HU := Lib.hid (HU.out.keep hb)
            replace HX := Lib.hid (HX.out.keep hb)
            clear hb
            go_wp2_with fail
            go_ret
            exact ⟨rfl, HB.out⟩
          · have d2 : z - s1 + 1 = s2 - z := by omega
            refine Agg.listR 22 (by kernel_rfl) ?_
            simp only [List.take_succ_cons, List.take_zero, List.drop_succ_cons, List.drop_zero]
            refine Agg.chMove rfl rfl rfl rfl ?_
            refine Agg.chFA fo_Span_0 rfl rfl rfl rfl ?_
            refine Agg.chLoadB HX.out (by decide +kernel) rfl rfl (by rfl) rfl rfl ?_
            refine Agg.chAr64 rfl rfl rfl rfl (by omega) (by omega) rfl rfl ?_
            refine Agg.chFA fo_Span_1 rfl rfl rfl rfl ?_
            refine Agg.chLoadB HX.out (by decide +kernel) rfl rfl (by rfl) rfl rfl ?_
            refine Agg.chMove rfl rfl rfl rfl ?_
            refine Agg.chAr64 rfl rfl rfl rfl (by omega) (by omega) rfl rfl ?_
            refine Agg.chEq false (beq_false_of_ne d) rfl rfl rfl rfl rfl ?_
            refine Agg.chMove rfl rfl rfl rfl ?_
            refine Agg.chMove rfl rfl rfl rfl ?_
            refine Agg.chFA fo_Span_0 rfl rfl rfl rfl ?_
            refine Agg.chLoadB HX.out (by decide +kernel) rfl rfl (by rfl) rfl rfl ?_
            refine Agg.chAr64 rfl rfl rfl rfl (by omega) (by omega) rfl rfl ?_
            refine Agg.chAr64 rfl rfl rfl rfl (by omega) (by omega) rfl rfl ?_
            refine Agg.chFA fo_Span_1 rfl rfl rfl rfl ?_
            refine Agg.chLoadB HX.out (by decide +kernel) rfl rfl (by rfl) rfl rfl ?_
            refine Agg.chMove rfl rfl rfl rfl ?_
            refine Agg.chAr64 rfl rfl rfl rfl (by omega) (by omega) rfl rfl ?_
            refine Agg.chEq true (beq_iff_eq.2 d2) rfl rfl rfl rfl rfl ?_
            refine Agg.chPick rfl rfl rfl rfl rfl ?_
            refine Agg.chAssign rfl rfl rfl rfl ?_
            refine Agg.chEnd ?_
            intro vs w66 hb _
            show Exit.then _ _ Exit.normal _ _
            simp only [List.reverse, List.reverseAux, Agg.fill, List.set_cons_succ, List.set_cons_zero]
            replace HB := Lib.hid (HB.out.trans (hb.mono HB.out.size))
            replace HU := Lib.hid (HU.out.keep hb)
            replace HX := Lib.hid (HX.out.keep hb)
            clear hb
            go_wp2_with fail
            go_ret
            exact ⟨rfl, HB.out⟩
        · have hno := apL_true HA.out
          have HF := Lib.hid (fit_no (com_no HQ.out hno) (by decide))
          clear hno
          go_wp2_with fail
          refine (fit_any L _ wA HU.out (com_ok _) 0 181 HF.out).mono ?_
          rintro e w67 ⟨rfl, hb⟩
          replace HB := Lib.hid (HB.out.trans (hb.mono HB.out.size))
          replace HU := Lib.hid (HU.out.keep hb)
          clear hb
          go_wp2_with fail
          go_ret
          exact ⟨rfl, HB.out⟩
theorem PmcPairs_walk (v : Value) (f : Nat) (w : World) (h : Agg.Good Try.prog w f 22 [v]) :
    Calls Try.prog 9 #[v] w fun e w' => e = .returned (.bool true) ∧ Below w.heap.size w w' := by
  obtain ⟨l, h3, h4⟩ := good_bands h
  exact pairs_walk l v w h3
end Go.Proofs.Ytchpkgneloiidaa
