/-
  DEVICES: Crash.
-/
import Derived.RangeFuncNested
import Derived.RangeFuncCalls
import Derived.RangeFuncLeaves
import Derived.Below
import Derived.Test.YtjnnnnolikbjcaaRFdDvL
import Derived.Test.YtjnnnnolikbjcaaAgg
import Derived.Test.YtjnnnnolikbjcaaKn
section
namespace Go.Proofs.Ytjnnnnolikbjcaa
open Go.ChangeShapes Go.WideShapes Go.ChangeAt Go.RowKit Agg Pg Dv

/-- writes settle, each as far as its mask lets it -/
def settleBy : List (List Sec) → List (Int × List Sec) → List Int → List (List Sec)
  | P, x :: l, m :: ms => settleBy (settle P x m) l ms
  | P, _, _ => P
def masksB (ms : List Int) : Bool := ms.all fun m => decide (0 ≤ m) && decide (m < 16)
/-- the power goes, and comes again -/
def crashP (d : Dev) (ms : List Int) : Int × Dev := if rightD d = false then (260, dev0) else if masksB ms = false then (2, dev0) else (0, ⟨settleBy d.pages d.cache ms, [], -1, false⟩)
theorem masksB_succ (l : List Int) (k : Nat) (h : k < l.length) : masksB (l.take (k + 1)) = (masksB (l.take k) && (decide (0 ≤ l[k]) && decide (l[k] < 16))) := by
  unfold masksB
  rw [List.take_succ_eq_append_getElem h, List.all_append]; simp
theorem masksB_bad (l : List Int) (k : Nat) (h : k < l.length) (hb : (decide (0 ≤ l[k]) && decide (l[k] < 16)) = false) : masksB l = false := by
  unfold masksB
  rw [List.all_eq_false]
  exact ⟨l[k], List.getElem_mem h, by rw [hb]; decide⟩
theorem settleBy_ok {P : List (List Sec)} (hP : ∀ b ∈ P, BOk b) (l : List (Int × List Sec)) (ms : List Int) (hl : ∀ x ∈ l, BOk x.2) : (settleBy P l ms).length = P.length ∧ ∀ b ∈ settleBy P l ms, BOk b := by
  induction l generalizing P ms with
  | nil => exact ⟨rfl, hP⟩
  | cons x r ih =>
    cases ms with
    | nil => exact ⟨rfl, hP⟩
    | cons m ms =>
      have := ih (settle_bok hP (hl x (by simp)) m) ms (fun y hy => hl y (by simp [hy]))
      exact ⟨by show (settleBy _ r ms).length = _; rw [this.1, settle_length], this.2⟩
theorem settleBy_take (P : List (List Sec)) (l : List (Int × List Sec)) (ms : List Int) (k : Nat) (h : k < l.length) (h2 : k < ms.length) : settleBy P (l.take (k + 1)) ms = settle (settleBy P (l.take k) ms) l[k] ms[k] := by
  induction k generalizing P l ms with
  | zero =>
    match l, ms, h, h2 with
    | x :: l, m :: ms, _, _ => simp [settleBy]
  | succ k ih =>
    match l, ms, h, h2 with
    | x :: l, m :: ms, h, h2 => simpa [settleBy] using ih (settle P x m) l ms (by simpa using h) (by simpa using h2)
theorem settleBy_same (P : List (List Sec)) (l : List (Int × List Sec)) (ms : List Int) (k : Nat) (h2 : ms.length ≤ k) : settleBy P (l.take (k + 1)) ms = settleBy P (l.take k) ms := by
  induction k generalizing P l ms with
  | zero =>
    have : ms = [] := List.eq_nil_of_length_eq_zero (by omega)
    subst this
    cases l <;> simp [settleBy]
  | succ k ih =>
    cases l with
    | nil => simp
    | cons x l =>
      cases ms with
      | nil => simp [settleBy]
      | cons m ms => simpa [settleBy] using ih (settle P x m) l ms (by simpa using h2)
set_option maxHeartbeats 4000000 in
set_option maxRecDepth 100000 in
theorem crash_any (P : List (List Sec)) (l : List (Int × List Sec)) (z : Int) (q : Bool) (x y : Option Addr) (cap cm : Nat) (ms : List Int) (mv : Value) (w : World)
    (hd1 : P.length ≤ 1000000) (hd2 : l.length ≤ 1000000) (hm6 : ms.length ≤ 1000000) (hp : Pgs w (.slice x P.length cap) P) (hv : Wrs w (.slice y l.length cm) l) (hP : ∀ b ∈ P, BOk b) (hC : ∀ x ∈ l, BOk x.2) (hm : Ints w mv ms) :
    Calls Try.prog 17 #[.agg #[.slice x P.length cap, .slice y l.length cm, .int .i64 z, .bool q], mv] w fun e w' => ∃ v, e = .returned (.tuple #[v, .int .i64 (crashP ⟨P, l, z, q⟩ ms).1]) ∧ DevO w.heap.size w' v (crashP ⟨P, l, z, q⟩ ms).2 ∧ Below w.heap.size w w' := by
  obtain ⟨mx, mc, rfl, _, _⟩ := hm.shape
  have HP := Lib.hid hp
  have HV := Lib.hid hv
  have HM := Lib.hid hm
  have HPB := Lib.hid hP
  have HCB := Lib.hid hC
  have HD1 := Lib.hid hd1
  have HD2 := Lib.hid hd2
  have HM6 := Lib.hid hm6
  have HMBL : Hid (∀ b o, mx = some ⟨b, o, none⟩ → 0 < ms.length → b < w.heap.size) := by
    refine Lib.hid (fun b o e h0 => ?_)
    obtain ⟨b', o', cap', hve, _, _, _, hlt⟩ := SlR.pos hm (by decide) h0
    subst e
    cases hve
    exact hlt
  have HPN : Hid ((P.length : Int) ≤ 9223372036854775807) := Lib.hid (by omega)
  have hmn : (ms.length : Int) ≤ 1000000 := by omega
  obtain ⟨rd, hrd⟩ : ∃ b, rightD ⟨P, l, z, q⟩ = b := ⟨_, rfl⟩
  have HRD := Lib.hid hrd
  obtain ⟨ee, hee⟩ : ∃ e, (if headD P.length z q && allD P.length l then (0 : Int) else 260) = e := ⟨_, rfl⟩
  have HEE := Lib.hid hee
  have HE2 : Hid (ee = if rd then 0 else 260) := Lib.hid (by rw [← hee, ← hrd, rightD_eq])
  obtain ⟨g, hg⟩ : ∃ g, crashP ⟨P, l, z, q⟩ ms = g := ⟨_, rfl⟩
  rw [hg]
  have HG := Lib.hid hg
  clear hp hv hP hC hd1 hd2 hm6 hm hrd hee hg
  have HB := Lib.hid (Below.refl w.heap.size w)
  go_enter Try.func17, Try.ntmps17
  go_upto_region 1 with (fail)
  refine Agg.wp_at fun w1 hw1 => ?_
  have hb : Below w.heap.size w w1 := by rw [hw1.out]; repeat (first | exact Below.refl _ _ | refine Agg.bel_drew ?_ | refine Agg.bel_alloc ?_ _)
  replace HB := Lib.hid (HB.out.trans (hb.mono HB.out.size))
  replace HP := Lib.hid (HP.out.keep hb)
  replace HV := Lib.hid (HV.out.keep hb)
  replace HM := Lib.hid (HM.out.keep hb)
  clear hb
  have H1 : Hid (Blk w1 w.heap.size 30 [.slice x P.length cap, .slice y l.length cm, .int .i64 z, .bool q]) := by show Blk _ _ _ _; rw [hw1.out]; exact (Blk.new w 30 #[.slice x P.length cap, .slice y l.length cm, .int .i64 z, .bool q]).al _
  have H2 : Hid (Blk w1 (w.heap.size + 1) 30 [.slice none 0 0, .slice none 0 0, .int .i64 0, .bool false]) := by show Blk _ _ _ _; rw [hw1.out]; exact Blk.newAt (w.alloc _) 30 #[.slice none 0 0, .slice none 0 0, .int .i64 0, .bool false] _ (by simp)
  clear hw1
  have xH1_0 := H1.out.cell 0
  have xH1_1 := H1.out.cell 1
  have xH1_2 := H1.out.cell 2
  have xH1_3 := H1.out.cell 3
  have lH1 := H1.out.lt
  simp only [List.getElem?_cons_zero, List.getElem?_cons_succ] at xH1_0 xH1_1 xH1_2 xH1_3
  go_wp2_with fail
  clear xH1_0 xH1_1 xH1_2 xH1_3 lH1
  refine (check_D x y P.length cap cm l z q w1 HPN.out HCB.out HV.out ee HEE.out).mono ?_
  rintro e w2 ⟨rfl, hb⟩
  replace HB := Lib.hid (HB.out.trans (hb.mono HB.out.size))
  replace HP := Lib.hid (HP.out.keep hb)
  replace HV := Lib.hid (HV.out.keep hb)
  replace HM := Lib.hid (HM.out.keep hb)
  replace H1 := Lib.hid (H1.out.keep hb)
  replace H2 := Lib.hid (H2.out.keep hb)
  clear hb
  cases rd
  · have hee : ee = 260 := HE2.out
    subst hee
    have hg := HG.out
    rw [crashP, if_pos HRD.out] at hg
    subst hg
    have h2 := H2.out
    go_wp2_with (first
      | (refine Agg.gBuild0 (.agg #[.slice none 0 0, .slice none 0 0, .int .i64 0, .bool false]) rfl rfl (fun W => zero_dev W) ?_; simp only [Act.put, List.setIfInBounds_toArray, List.set_cons_succ, List.set_cons_zero])
      | (refine Agg.gStoreB 4 [.slice none 0 0, .slice none 0 0, .int .i64 0, .bool false] h2 rfl rfl rfl rfl rfl (by decide +kernel) rfl rfl (by simp [Value.oneCell']) (fun w14 hb14 hg14 => ?_)))
    refine bodyPost_ret (results_row2 (m := 4) rfl hb14 rfl (by decide +kernel) rfl) rfl ⟨_, rfl, devO_zero _ _, ?_⟩
    exact HB.out.trans (grown_below hg14 HB.out.size (fun j hj => (by cases hj; omega)))
  · have hee : ee = 0 := HE2.out
    subst hee
    have hg := HG.out
    rw [crashP, if_neg (by rw [HRD.out]; decide)] at hg
    clear HG HEE HE2
    go_wp2_with fail
    have HF0 : Hid (From w2 w2) := Lib.hid (Below.refl _ _)
    go_loopw [20, 8] (fun i u wr => ∃ k : Nat, k ≤ ms.length ∧ i = .int .i64 k ∧ masksB (ms.take k) = true ∧ wr = w2) (fun i _ _ => ms.length - (intOf i).toNat)
    case atStart => exact ⟨0, by omega, rfl, by simp [masksB], rfl⟩
    case round =>
      obtain ⟨k, hk, rfl, hmk, rfl⟩ := hrel
      have HMK := Lib.hid hmk
      clear hmk
      by_cases hlt : k < ms.length
      · obtain ⟨b, o, cap', hve, _, _, hcm, _⟩ := SlR.pos HM.out (by decide) (by omega)
        simp only [Value.slice.injEq, true_and] at hve
        obtain ⟨rfl, rfl⟩ := hve
        have hcs : wr.cell? ⟨b, o + k, none⟩ = some (.int .i64 ms[k]) := hcm k _ (by simp [iC, List.getElem?_eq_getElem hlt])
        have HMS := Lib.hid (masksB_succ ms k hlt)
        have HMB := Lib.hid (masksB_bad ms k hlt)
        generalize ms[k] = m at *
        by_cases hm1 : 0 ≤ m
        · by_cases hm2 : m < 16
          · go_wp2_with fail
            go_roundw
            case rel => exact ⟨k + 1, by omega, by go_num, by rw [HMS.out, HMK.out]; simp [hm1, hm2], (by first | rfl | trivial)⟩
            case measure => simp [intOf]; omega
          · have hm3 : m ≥ 16 := by omega
            have hbm : masksB ms = false := HMB.out (by simp; omega)
            rw [if_pos hbm] at hg
            subst hg
            have h2 := H2.out
            clear hbm
            go_wp2_with (first
              | (refine Agg.gBuild0 (.agg #[.slice none 0 0, .slice none 0 0, .int .i64 0, .bool false]) rfl rfl (fun W => zero_dev W) ?_; simp only [Act.put, List.setIfInBounds_toArray, List.set_cons_succ, List.set_cons_zero])
              | (refine Agg.gStoreB 4 [.slice none 0 0, .slice none 0 0, .int .i64 0, .bool false] h2 rfl rfl rfl rfl rfl (by decide +kernel) rfl rfl (by simp [Value.oneCell']) (fun w14 hb14 hg14 => ?_)))
            refine bodyPost_ret (results_row2 (m := 4) rfl hb14 rfl (by decide +kernel) rfl) rfl ⟨_, rfl, devO_zero _ _, ?_⟩
            exact HB.out.trans (grown_below hg14 HB.out.size (fun j hj => (by cases hj; omega)))
        · have hm3 : m < 0 := by omega
          have hbm : masksB ms = false := HMB.out (by simp; omega)
          rw [if_pos hbm] at hg
          subst hg
          have h2 := H2.out
          clear hbm
          go_wp2_with (first
            | (refine Agg.gBuild0 (.agg #[.slice none 0 0, .slice none 0 0, .int .i64 0, .bool false]) rfl rfl (fun W => zero_dev W) ?_; simp only [Act.put, List.setIfInBounds_toArray, List.set_cons_succ, List.set_cons_zero])
            | (refine Agg.gStoreB 4 [.slice none 0 0, .slice none 0 0, .int .i64 0, .bool false] h2 rfl rfl rfl rfl rfl (by decide +kernel) rfl rfl (by simp [Value.oneCell']) (fun w14 hb14 hg14 => ?_)))
          refine bodyPost_ret (results_row2 (m := 4) rfl hb14 rfl (by decide +kernel) rfl) rfl ⟨_, rfl, devO_zero _ _, ?_⟩
          exact HB.out.trans (grown_below hg14 HB.out.size (fun j hj => (by cases hj; omega)))
      · obtain rfl : k = ms.length := by omega
        have hbm := HMK.out
        rw [List.take_length] at hbm
        rw [if_neg (by rw [hbm]; decide)] at hg
        clear hbm HMK
        have l2 := H2.out.lt
        have hsz := HB.out.size
        obtain ⟨B, hB⟩ : ∃ B, wr.heap.size = B := ⟨_, rfl⟩
        have HFR : Hid (From wr wr) := Lib.hid (Below.refl _ _)
        clear HF0
        have xH1_0 := H1.out.cell 0
        have xH1_1 := H1.out.cell 1
        have xH1_2 := H1.out.cell 2
        have xH1_3 := H1.out.cell 3
        have lH1 := H1.out.lt
        simp only [List.getElem?_cons_zero, List.getElem?_cons_succ] at xH1_0 xH1_1 xH1_2 xH1_3
        go_wp2_with fail
        clear xH1_0 xH1_1 xH1_2 xH1_3 lH1
        refine (own_D x y cap cm P l z q wr HD1.out HD2.out HPB.out HP.out HV.out).mono ?_
        rintro e w21 ⟨p, c, rfl, hp, hc, hb⟩
        replace HB := Lib.hid (HB.out.trans (hb.mono HB.out.size))
        replace HP := Lib.hid (HP.out.keep hb)
        replace HV := Lib.hid (HV.out.keep hb)
        replace H1 := Lib.hid (H1.out.keep hb)
        replace H2 := Lib.hid (H2.out.keep hb)
        replace HFR := Lib.hid (HFR.out.keep hb)
        replace HM := Lib.hid (HM.out.keep hb)
        clear hb
        rw [hB] at hp hc l2 hsz
        have hsz3 : B ≤ w21.heap.size := by have h := HFR.out; unfold From at h; rw [← hB]; exact h.size
        obtain ⟨px, pc, rfl, _, _⟩ := (ownSl hp).shape
        obtain ⟨cx, cc, rfl, _, hcc⟩ := (ownSl hc).shape
        unfold maxLen at hcc
        obtain ⟨t, ht⟩ : ∃ t, w21.heap.size = t := ⟨_, rfl⟩
        have HT : Hid (Blk (w21.alloc (.cells #[.slice px P.length pc, .slice cx l.length cc, .int .i64 z, .bool q] 85)) t 85 [.slice px P.length pc, .slice cx l.length cc, .int .i64 z, .bool q]) := Lib.hid (Blk.newAt w21 85 #[.slice px P.length pc, .slice cx l.length cc, .int .i64 z, .bool q] t ht.symm)
        have HPO := Lib.hid (own_keep hp ((Below.refl _ _).alloc (Nat.le_refl _) (.cells #[.slice px P.length pc, .slice cx l.length cc, .int .i64 z, .bool q] 85)))
        have HCO := Lib.hid (own_keep hc ((Below.refl _ _).alloc (Nat.le_refl _) (.cells #[.slice px P.length pc, .slice cx l.length cc, .int .i64 z, .bool q] 85)))
        go_upto_region 11 with (fail)
        have HB9 := Lib.hid (HB.out.alloc HB.out.size (.cells #[.slice px P.length pc, .slice cx l.length cc, .int .i64 z, .bool q] 85))
        have H29 := Lib.hid (H2.out.al (.cells #[.slice px P.length pc, .slice cx l.length cc, .int .i64 z, .bool q] 85))
        have HM9 := Lib.hid (HM.out.keep ((Below.refl _ _).alloc (Nat.le_refl _) (.cells #[.slice px P.length pc, .slice cx l.length cc, .int .i64 z, .bool q] 85)))
        have htB : B ≤ t := by omega
        have hcn : (l.length : Int) ≤ 1000000 := by have := HD2.out; omega
        refine Agg.wp_at fun w9 hw9 => ?_
        rw [← hw9.out] at HB9 H29 HM9 HT HPO HCO
        clear hw9 ht hB hp hc H1 H2 HP HV HFR HB HM hsz3
        have h24 := (right_parts HRD.out).1
        have HINR := Lib.hid (right_parts HRD.out).2.2.2.2
        obtain ⟨gg, o', pc', hve, _, _, _, _⟩ := SlR.pos (ownSl HPO.out) (by decide) (by omega)
        simp only [Value.slice.injEq, true_and] at hve
        obtain ⟨rfl, rfl⟩ := hve
        obtain rfl : o' = 0 := by
          rcases HPO.out.2 with ⟨h, _⟩ | ⟨g', cap', cur, h, _⟩
          · cases h
          · cases h; rfl
        obtain ⟨r, hk0, hbg, hpc1, hpc2, hrl⟩ := own_blk HPO.out
        have HRL := Lib.hid (And.intro hbg (And.intro hpc1 (And.intro hpc2 hrl)))
        have HK0 := Lib.hid hk0
        have HG0 := Lib.hid (blk_ne HT.out hk0 (Ne.symm bTne))
        have HW : Hid (∀ x ∈ l, (wrC x).length = 133) := Lib.hid (fun x hx => wrC_length x (HCB.out x hx))
        clear hk0 hbg hpc1 hpc2 hrl HPO
        have hB9 : B ≤ w9.heap.size := by have := HT.out.lt; omega
        have xHT_0 := HT.out.cell 0
        have xHT_1 := HT.out.cell 1
        have xHT_2 := HT.out.cell 2
        have xHT_3 := HT.out.cell 3
        have lHT := HT.out.lt
        simp only [List.getElem?_cons_zero, List.getElem?_cons_succ] at xHT_0 xHT_1 xHT_2 xHT_3
        go_wp2_with fail
        clear xHT_0 xHT_1 xHT_2 xHT_3 lHT
        go_loopw [42, 10, 11] (fun i _ _ wr => ∃ k : Nat, k ≤ l.length ∧ i = .int .i64 k ∧ Below B w9 wr ∧ Blk wr t 85 [.slice (some ⟨gg, 0, none⟩) P.length pc, .slice cx l.length cc, .int .i64 z, .bool q] ∧ Blk wr gg 38 ((settleBy P (l.take k) ms).flatMap blkC ++ r) ∧ wr.ownsRow B 88 133 (.slice cx l.length cc) l.length (l.flatMap wrC)) (fun i _ _ _ => l.length - (intOf i).toNat)
        case atStart => exact ⟨0, by omega, rfl, Below.refl _ _, HT.out, by cases ms <;> exact HK0.out, HCO.out⟩
        case round =>
          obtain ⟨k, hk, rfl, hb, h1, h2, h3⟩ := hrel
          have HBW := Lib.hid hb
          have HT2 := Lib.hid h1
          have HG := Lib.hid h2
          have HC2 := Lib.hid h3
          have HSO := Lib.hid (settleBy_ok HPB.out (l.take k) ms (fun x hx => HCB.out x (List.mem_of_mem_take hx)))
          have hbA : B ≤ wr.heap.size := Nat.le_trans hB9 HBW.out.size
          clear hb h1 h2 h3
          by_cases hlt2 : k < l.length
          · obtain ⟨cb, co, cap', hve, _, _, _, _⟩ := SlR.pos (ownSl HC2.out) (by decide) (by omega)
            simp only [Value.slice.injEq, true_and] at hve
            obtain ⟨rfl, rfl⟩ := hve
            have hcs := flat_at wrC 133 (by decide) (ownSl HC2.out) HW.out hlt2
            have h133 := HW.out _ (List.getElem_mem hlt2)
            have h1 := wrC_one l[k]
            have HBO := Lib.hid (HCB.out _ (List.getElem_mem hlt2))
            have HTH := Lib.hid (HINR.out _ (List.getElem_mem hlt2))
            have HS := Lib.hid (settleBy_take P l ms k hlt2)
            have HSS := Lib.hid (settleBy_same P l ms k)
            generalize l[k] = s at *
            go_upto_region 14 with (first
              | (refine Agg.gLoad 133 (wrC s) rfl rfl rfl (by decide +kernel) h133 hcs ?_; simp only [Act.put, List.setIfInBounds_toArray, List.set_cons_succ, List.set_cons_zero])
              | (refine Agg.allocRow 88 wr0.toArray rfl rfl (by kernel_rfl) ?_; simp only [Act.put, List.setIfInBounds_toArray, List.set_cons_succ, List.set_cons_zero])
              | (refine Agg.gStoreNew 133 (wrC s) rfl rfl rfl rfl rfl rfl (by decide +kernel) h133 wr0_size h1 ?_; simp only [Act.put]))
            have HBX := Lib.hid (Blk.new wr 88 (wrC s).toArray)
            have HT3 := Lib.hid (HT2.out.al (.cells (wrC s).toArray 88))
            have HG3 := Lib.hid (HG.out.al (.cells (wrC s).toArray 88))
            have HC3 := Lib.hid (own_keep HC2.out ((Below.refl _ wr).alloc (Nat.le_refl _) (.cells (wrC s).toArray 88)))
            have HBW3 := Lib.hid (HBW.out.alloc hbA (.cells (wrC s).toArray 88))
            have HMW := Lib.hid (SlR.keep HM9.out ((Below.refl _ w9).mono (Nat.le_refl _)))
            obtain ⟨bx, hbx⟩ : ∃ b, wr.heap.size = b := ⟨_, rfl⟩
            rw [hbx] at HBX ⊢
            have H133 := Lib.hid h133
            refine Agg.wp_at fun wB hwB => ?_
            rw [← hwB.out] at HBX HT3 HG3 HC3 HBW3
            clear hwB hcs h1 h133 hbx HMW HT2 HG HC2 HBW
            by_cases hkm : k < ms.length
            · obtain ⟨mb, mo, cap', hve, _, _, hcm, _⟩ := SlR.pos HM9.out (by decide) (by omega)
              simp only [Value.slice.injEq, true_and] at hve
              obtain ⟨rfl, rfl⟩ := hve
              have hmbB : mb < B := by have := HMBL.out mb mo rfl (by omega); omega
              have HCM : Hid (wB.cell? ⟨mb, mo + k, none⟩ = some (.int .i64 ms[k])) := Lib.hid (by
                rw [HBW3.out.cell (p := ⟨mb, mo + k, none⟩) hmbB]
                exact hcm k _ (by simp [iC, List.getElem?_eq_getElem hkm]))
              have HST := Lib.hid (HS.out hkm)
              generalize ms[k] = m at *
              clear HS HSS hcm
              go_upto_region 15 with (fail)
              have hkm2 : (k : Int) < ms.length := by omega
              refine Agg.chainR 6 (by kernel_rfl) (by kernel_rfl) ?_
              simp only [List.take_succ_cons, List.take_zero, List.drop_succ_cons, List.drop_zero]
              refine Agg.chMove rfl rfl rfl rfl ?_
              refine Agg.chRowB 133 HBX.out H133.out (by decide +kernel) rfl rfl rfl rfl ?_
              refine Agg.chMove rfl rfl rfl rfl ?_
              refine Agg.chMove rfl rfl rfl rfl ?_
              refine Agg.chIA tiInt (by omega) (by omega) rfl rfl rfl rfl rfl ?_
              refine Agg.chLoad rfl rfl rfl rfl (by decide +kernel) (by rw [Int.toNat_natCast, Nat.mul_one]; exact HCM.out) ?_
              refine Agg.chEnd ?_
              intro vs w41 hb hf
              simp only [List.reverse, List.reverseAux, Agg.Facts] at hf
              obtain _ := hf
              simp only [List.reverse, List.reverseAux, Agg.fill, List.set_cons_succ, List.set_cons_zero]
              obtain ⟨p, hp1, hp2⟩ := there_nat HTH.out
              have hbB : B ≤ wB.heap.size := Nat.le_trans hB9 HBW3.out.size
              have HT4 := Lib.hid (HT3.out.keep hb)
              have HG4 := Lib.hid (HG3.out.keep hb)
              have HC4 := Lib.hid (own_keep HC3.out hb)
              have HB4 := Lib.hid (HBW3.out.trans (hb.mono hbB))
              have hbB4 : B ≤ w41.heap.size := Nat.le_trans hbB hb.size
              clear hb HT3 HG3 HC3 HBW3
              generalize settleBy P (l.take k) ms = Q at *
              go_wp2_with fail
              have hT : Blk w41 t 85 [.slice (some ⟨gg, 0, none⟩) Q.length pc, .slice (some ⟨cb, co, none⟩) l.length cc, .int .i64 z, .bool q] := by rw [HSO.out.1]; exact HT4.out
              refine (settles_any Q r s.1 s.2 p hp1 (by rw [HSO.out.1]; exact hp2) HSO.out.2 HBO.out m _ _ t gg pc _ _ _ _ hT HG4.out HG0.out (by rw [HSO.out.1]; have := HD1.out; omega)).mono ?_
              rintro e w5 ⟨⟨v, rfl⟩, hG5, hg5⟩
              have hT5 := HT4.out.far' hg5 HG0.out
              have hC5 := HC4.out.kept hg5 (own_apart HC4.out HG4.out (Ne.symm bWne))
              have hB5 := HB4.out.trans (grown_below hg5 hbB4 (fun j hj => (by cases hj; exact HRL.out.1)))
              have hS5 : settle Q s m = Q.set p (mixB (Q[p]'(by rw [HSO.out.1]; exact hp2)) s.2 m) := by
                unfold settle
                rw [hp1, Int.toNat_natCast, List.getD_eq_getElem?_getD, List.getElem?_eq_getElem (by rw [HSO.out.1]; exact hp2)]; rfl
              rw [← hS5] at hG5
              have HG5 := Lib.hid hG5
              have HT5 := Lib.hid hT5
              have HC5 := Lib.hid hC5
              have HB5 := Lib.hid hB5
              clear hG5 hT5 hC5 hB5 hS5 hg5 hT hp1 hp2 HG4 HT4 HC4 HB4
              go_wp2_with fail
              refine Agg.noP ?_
              go_wp2_with fail
              go_roundw
              case rel => exact ⟨k + 1, by omega, by go_num, HB5.out, HT5.out, by rw [HST.out]; exact HG5.out, HC5.out⟩
              case measure => simp [intOf]; omega
            · have HKM : Hid (ms.length ≤ k) := Lib.hid (by omega)
              go_wp2_with fail
              go_roundw
              case rel => exact ⟨k + 1, by omega, by go_num, HBW3.out, HT3.out, by rw [HSS.out HKM.out]; exact HG3.out, HC3.out⟩
              case measure => simp [intOf]; omega
          · obtain rfl : k = l.length := by omega
            have hgk := HG.out
            rw [List.take_length] at hgk HSO
            subst hg
            have hT6 := HT2.out
            have HG6 := Lib.hid hgk
            clear hgk HG
            go_upto_region 18 with (first
              | (refine Agg.gStoreCell 1 (.slice none 0 0) hT6 rfl rfl rfl rfl rfl (by kernel_rfl) rfl (by simp) rfl (fun w11 hb11 hg11 => ?_); clear hT6)
              | (refine Agg.gStoreCell 3 (.bool false) hb11 rfl rfl rfl rfl rfl (by kernel_rfl) rfl (by simp [spliced]) rfl (fun w12 hb12 hg12 => ?_); clear hb11)
              | (refine Agg.gStoreCell 2 (.int .i64 (-1)) hb12 rfl rfl rfl rfl rfl (by kernel_rfl) rfl (by simp [spliced]) rfl (fun w13 hb13 hg13 => ?_); clear hb12))
            have hG7 := ((HG6.out.far' hg11 (Ne.symm HG0.out)).far' hg12 (Ne.symm HG0.out)).far' hg13 (Ne.symm HG0.out)
            have hB7 := ((HBW.out.trans (grown_below hg11 hbA (fun j hj => (by cases hj; exact htB)))).trans (grown_below hg12 (Nat.le_trans hbA hg11.size) (fun j hj => (by cases hj; exact htB)))).trans (grown_below hg13 (Nat.le_trans hbA (Nat.le_trans hg11.size hg12.size)) (fun j hj => (by cases hj; exact htB)))
            have h13 : spliced (spliced (spliced [Value.slice (some ⟨gg, 0, none⟩) P.length pc, Value.slice cx l.length cc, Value.int IntKind.i64 z, Value.bool q] 1 [Value.slice none 0 0]) 3 [Value.bool false]) 2 [Value.int IntKind.i64 (-1)] = [Value.slice (some ⟨gg, 0, none⟩) P.length pc, .slice none 0 0, .int .i64 (-1), .bool false] := by simp [spliced]
            rw [h13] at hb13
            have h2 := blk_keepB H29.out hB7 l2
            have HO7 := Lib.hid (blk_own hG7 HRL.out.1 HRL.out.2.1 HRL.out.2.2.1 (sz := 132) (n := P.length) (by rw [List.length_append, flat_len blkC 132 _ (fun b hb => bok_cells (HSO.out.2 b hb)), HSO.out.1, ← flat_len blkC 132 P (fun b hb => bok_cells (HPB.out b hb)), ← List.length_append]; exact HRL.out.2.2.2) (by rw [flat_len blkC 132 _ (fun b hb => bok_cells (HSO.out.2 b hb)), HSO.out.1]))
            have HB7 := Lib.hid (HB9.out.trans (hB7.mono hsz))
            clear h13 hg11 hg12 hg13 hG7 hB7 HG6 HT2 HC2 HBW
            go_wp2_with (first
              | (refine Agg.gLoadB 4 hb13 rfl rfl rfl rfl (by decide +kernel) ?_; simp only [Act.put, List.setIfInBounds_toArray, List.set_cons_succ, List.set_cons_zero])
              | (refine Agg.gStoreB 4 [.slice (some ⟨gg, 0, none⟩) P.length pc, .slice none 0 0, .int .i64 (-1), .bool false] h2 rfl rfl rfl rfl rfl (by decide +kernel) rfl rfl (by simp [Value.oneCell']) (fun w14 hb14 hg14 => ?_)))
            refine bodyPost_ret (results_row2 (m := 4) rfl hb14 rfl (by decide +kernel) rfl) rfl ⟨_, rfl, ⟨_, _, rfl, ?_, World.ownsRow_nil _ _ _ _⟩, ?_⟩
            · have hk := own_base (HO7.out.kept hg14 (own_off HO7.out l2)) hsz
              show w14.ownsRow w.heap.size _ 132 _ (settleBy P l ms).length _
              rw [HSO.out.1]
              exact hk
            · exact HB7.out.trans (grown_below hg14 HB7.out.size (fun j hj => (by cases hj; omega)))
end Go.Proofs.Ytjnnnnolikbjcaa
end
section
/-
  RANGE OVER A FUNCTION: an iterator that tells a list, one element behind the other; its caller; what is walked plainly holds in a round, too. Over any program.
-/
namespace Agg
open Go Go.RowKit
/-! what is walked plainly holds in a round -/
theorem rowsIn_wide {n : Nat} {P : Program} {row : String} {args : Array Value} {w : World} {R : Value → World → Prop} (h : Rows P row args w R) : RowsIn Fence.wide n P row args w R := by
  intro c cs _
  obtain ⟨v, w', hr, hs⟩ := h c cs
  exact ⟨v, w', hr, stepsIn_wide.2 hs⟩
def noDefer (o : Oper) : Bool := match o.op with | .defer _ => false | _ => true
theorem noDefer_spec {o : Oper} (h : noDefer o = true) : ∀ c, o.op ≠ .defer c := by
  intro c e
  unfold noDefer at h
  rw [e] at h
  cases h
theorem oper_in {r n : Nat} {P : Program} {o : Oper} {a : Act} {w : World} {next next' : Act → World → Prop} {Q : Exit → Act → World → Prop} (hd : noDefer o = true) (hn : ∀ a w, next a w → next' a w) (h : o.wp P a w next Q) : o.wpIn (Fence.wide.inRound r) n P a w next' Q := by
  refine ⟨fun _ _ => trivial, ?_⟩
  unfold Oper.wp at h
  rw [Fence.inRound_round, Oper.semAt_some r a.eval o (noDefer_spec hd)]
  revert h
  cases (execOp a.eval o).run P w with
  | ok v w' =>
    cases v with
    | value v => exact hn _ _
    | skip => exact hn _ _
    | defer d => exact hn _ _
    | enter f args =>
      intro h
      refine ⟨fun e => (by cases e), CallsIn.inRound r ((callsIn_wide (n := n - 1)).2 (Calls.mono h ?_))⟩
      rintro e w2 h2
      cases e with
      | returned v => exact hn _ _ h2
      | panicked c => exact h2
      | outgrown => exact h2
    | row row args =>
      intro h
      refine ⟨fun e => (by cases e), ?_⟩
      exact rowsIn_wide (Rows.mono h fun v w2 h2 => hn _ _ h2)
    | _ => exact fun h => h.elim
  | halt s w' =>
    cases s with
    | panic v => exact fun h => h
    | _ => exact fun h => h.elim
theorem list_in {r n : Nat} {P : Program} {ops : Array Oper} {Q : Exit → Act → World → Prop} (hno : ¬ LetsOut Q) : ∀ (L : List Oper) (a : Act) (w : World), L.all noDefer = true → wpList P ops Q L a w → wpListIn (Fence.wide.inRound r) n P ops Q L a w
  | [], _, _, _, h => h
  | o :: rest, a, w, hd, h => by
    simp only [List.all_cons, Bool.and_eq_true] at hd
    unfold wpList at h
    unfold wpListIn
    by_cases hw : Region.wanted o (yielded ops a.tmps) = true
    · rw [if_pos hw] at h ⊢
      rcases h with h | ⟨_, h⟩
      · exact oper_in hd.1 (fun a w h => list_in hno rest a w hd.2 h) h
      · exact (hno h).elim
    · rw [if_neg hw] at h ⊢
      exact ⟨fun _ _ => trivial, list_in hno rest _ w hd.2 h⟩
/-- a region that does not draw, in a round -/
theorem region_in {r n id : Nat} {P : Program} {l : List Oper} {Q : Exit → Act → World → Prop} {a : Act} {w : World} (hno : ¬ LetsOut Q) (hd : l.all noDefer = true) (h : wpList P l.toArray Q l a w) : (Code.region id l.toArray false).wpIn (Fence.wide.inRound r) n P Q a w :=
  wpIn_region_lit (list_in hno l a w hd h)
theorem ops_in {r n : Nat} {P : Program} {ops : Array Oper} {Q : Exit → Act → World → Prop} (hno : ¬ LetsOut Q) (hd : ops.all noDefer = true) : ∀ (L : List Nat) (a : Act) (w : World), wpOps P ops Q L a w → wpOpsIn (Fence.wide.inRound r) n P ops Q L a w
  | [], _, _, h => h
  | i :: rest, a, w, h => by
    unfold wpOps at h
    unfold wpOpsIn
    cases ho : ops[i]? with
    | none => simp only [ho] at h ⊢; exact ops_in hno hd rest a w h
    | some o =>
      have hod : noDefer o = true := by
        rw [Array.all_eq_true] at hd
        obtain ⟨hlt, rfl⟩ := Array.getElem?_eq_some_iff.1 ho
        exact hd i hlt
      simp only [ho] at h ⊢
      by_cases hw : Region.wanted o (yielded ops a.tmps) = true
      · rw [if_pos hw] at h ⊢
        rcases h with h | ⟨_, h⟩
        · exact oper_in hod (fun a w h => ops_in hno hd rest a w h) h
        · exact (hno h).elim
      · rw [if_neg hw] at h ⊢
        exact ⟨fun _ _ => trivial, ops_in hno hd rest _ w h⟩
/-! what turns: a block that holds no cells, from B on -/
def Turn (B : Nat) (W W' : World) : Prop := ∃ (l : Nat) (o o' : Obj), W' = W.putObj l o' ∧ B ≤ l ∧ W.heap[l]? = some o ∧ o.isCells = false
theorem Turn.grown {B : Nat} {W W' : World} (h : Turn B W W') : ∃ l, W.grownBy W' (some l) ∧ B ≤ l ∧ ∃ o : Obj, W.heap[l]? = some o ∧ o.isCells = false := by
  obtain ⟨l, o, o', rfl, h1, h2, h3⟩ := h
  exact ⟨l, grownBy_putObj' W l o', h1, o, h2, h3⟩
theorem Turn.below {B n0 : Nat} {w W W' : World} (h : Turn B W W') (hb : Below n0 w W) (hn : n0 ≤ B) : Below n0 w W' := by
  obtain ⟨l, hg, h1, o, ho, _⟩ := h.grown
  have := (Array.getElem?_eq_some_iff.1 ho).1
  exact hb.grown hg (by omega) (fun k e => by cases e; omega)
theorem Turn.blk {B g : Nat} {t : TypeId} {cs : List Value} {W W' : World} (h : Turn B W W') (hb : Blk W g t cs) : Blk W' g t cs := by
  obtain ⟨l, hg, _, o, ho, hc⟩ := h.grown
  refine (hg.block g hb.lt (fun e => ?_)).trans hb
  cases e
  unfold Blk at hb
  rw [hb] at ho
  cases ho
  cases hc
theorem Turn.own {B base sz n : Nat} {e : TypeId} {v : Value} {xs : List Value} {W W' : World} (h : Turn B W W') (hb : W.ownsRow base e sz v n xs) : W'.ownsRow base e sz v n xs := by
  obtain ⟨l, hg, _, o, ho, hc⟩ := h.grown
  refine hb.kept hg ?_
  rcases hb.2 with ⟨rfl, _⟩ | ⟨g, cap, cur, rfl, _, hgb, _⟩
  · exact .inl rfl
  · refine .inr fun e' => ?_
    obtain rfl : g = l := by simpa [Value.ownBlock] using e'
    rw [hgb] at ho
    cases ho
    cases hc
/-! what a round keeps -/
theorem keeps_below {B : Nat} {W W' : World} (h : Below W.heap.size W W') : KeepsFrom B W W' := ⟨h.size, fun k o _ hk _ => by rw [h.block k (Array.getElem?_eq_some_iff.1 hk).1]; exact hk⟩
theorem keeps_blk {B g : Nat} {t : TypeId} {cs : List Value} {W W' : World} (hb : Blk W g t cs) (hg : W.grownBy W' (some g)) : KeepsFrom B W W' := by
  refine ⟨hg.size, fun k o _ hk ho => ?_⟩
  rw [hg.block k (Array.getElem?_eq_some_iff.1 hk).1 (fun e => ?_)]
  · exact hk
  · cases e
    unfold Blk at hb
    rw [hb] at hk
    cases hk
    cases ho
theorem keeps_own {B base sz n : Nat} {e : TypeId} {v : Value} {xs : List Value} {W W' : World} (hb : W.ownsRow base e sz v n xs) (hg : W.grownBy W' v.ownBlock) : KeepsFrom B W W' := by
  refine ⟨hg.size, fun k o _ hk ho => ?_⟩
  rw [hg.block k (Array.getElem?_eq_some_iff.1 hk).1 (fun e' => ?_)]
  · exact hk
  · rcases hb.2 with ⟨rfl, _⟩ | ⟨g, cap, cur, rfl, _, hgb, _⟩
    · simp [Value.ownBlock] at e'
    · obtain rfl : k = g := by simpa [Value.ownBlock] using e'
      rw [hgb] at hk
      cases hk
      cases ho
end Agg
end
