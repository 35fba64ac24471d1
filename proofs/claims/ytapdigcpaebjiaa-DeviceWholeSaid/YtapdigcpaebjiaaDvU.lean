/-
  DEVICES: the document's Crash.
-/
import Derived.Test.YtapdigcpaebjiaaDvT
namespace Go.Proofs.Ytapdigcpaebjiaa
open Go.ChangeShapes Go.WideShapes Go.ChangeAt Go.RowKit Agg Pg Dv

theorem settleBy_full (P : List (List Sec)) (l : List (Int × List Sec)) (ms : List Int) (k : Nat) (hk : k ≤ l.length) (h : ms.length ≤ k) : settleBy P (l.take k) ms = settleBy P l ms := by
  induction k generalizing P l ms with
  | zero =>
    have : ms = [] := List.eq_nil_of_length_eq_zero (by omega)
    subst this
    cases l <;> simp [settleBy]
  | succ k ih =>
    cases l with
    | nil => simp
    | cons x l =>
      cases ms with
      | nil => simp [settleBy]
      | cons m ms => simpa [settleBy] using ih (settle P x m) l ms (by simpa using hk) (by simpa using h)
theorem masksB_mem {ms : List Int} (h : masksB ms = true) : ∀ m ∈ ms, 0 ≤ m ∧ m < 16 := by
  intro m hm
  have := List.all_eq_true.1 h m hm
  simpa using this
set_option maxHeartbeats 4000000 in
set_option maxRecDepth 100000 in
theorem rCrash_any (P : List (List Sec)) (l : List (Int × List Sec)) (z : Int) (q : Bool) (x y : Option Addr) (cap cm : Nat) (ms : List Int) (mv : Value) (w : World)
    (hd1 : P.length ≤ 1000000) (hd2 : l.length ≤ 1000000) (hm6 : ms.length ≤ 1000000) (hp : Pgs w (.slice x P.length cap) P) (hv : Wrs w (.slice y l.length cm) l) (hP : ∀ b ∈ P, BOk b) (hC : ∀ x ∈ l, BOk x.2) (hm : Ints w mv ms) :
    Calls Try.prog 30 #[.agg #[.slice x P.length cap, .slice y l.length cm, .int .i64 z, .bool q], mv] w fun e w' => ∃ v, e = .returned (.tuple #[v, .int .i64 (crashP ⟨P, l, z, q⟩ ms).1]) ∧ DevR w' v (crashP ⟨P, l, z, q⟩ ms).2 ∧ Below w.heap.size w w' := by
  obtain ⟨mx, mc, rfl, _, _⟩ := hm.shape
  have HP := Lib.hid hp
  have HV := Lib.hid hv
  have HM := Lib.hid hm
  have HM0 := HM
  have HPB := Lib.hid hP
  have HCB := Lib.hid hC
  have HD1 := Lib.hid hd1
  have HD2 := Lib.hid hd2
  have HM6 := Lib.hid hm6
  have HMBL : Hid (∀ b o, mx = some ⟨b, o, none⟩ → 0 < ms.length → b < w.heap.size) := by
    refine Lib.hid (fun b o e h0 => ?_)
    obtain ⟨b', o', cap', hve, _, _, _, hlt⟩ := SlR.pos hm (by decide) h0
    subst e
    cases hve
    exact hlt
  have HPN : Hid ((P.length : Int) ≤ 9223372036854775807) := Lib.hid (by omega)
  have hmn : (ms.length : Int) ≤ 1000000 := by omega
  obtain ⟨rd, hrd⟩ : ∃ b, rightD ⟨P, l, z, q⟩ = b := ⟨_, rfl⟩
  have HRD := Lib.hid hrd
  have HEE : Hid ((headD P.length z q && allD P.length l) = rd) := Lib.hid (by rw [← hrd, rightD_eq])
  obtain ⟨g, hg⟩ : ∃ g, crashP ⟨P, l, z, q⟩ ms = g := ⟨_, rfl⟩
  rw [hg]
  have HG := Lib.hid hg
  clear hp hv hP hC hd1 hd2 hm6 hm hrd hg
  have HB := Lib.hid (Below.refl w.heap.size w)
  go_enter Try.func30, Try.ntmps30
  go_upto_region 1 with (fail)
  refine Agg.wp_at fun w1 hw1 => ?_
  have hb : Below w.heap.size w w1 := by rw [hw1.out]; repeat (first | exact Below.refl _ _ | refine Agg.bel_drew ?_ | refine Agg.bel_alloc ?_ _)
  replace HB := Lib.hid (HB.out.trans (hb.mono HB.out.size))
  replace HP := Lib.hid (HP.out.keep hb)
  replace HV := Lib.hid (HV.out.keep hb)
  replace HM := Lib.hid (HM.out.keep hb)
  clear hb
  have H1 : Hid (Blk w1 w.heap.size 36 [.slice x P.length cap, .slice y l.length cm, .int .i64 z, .bool q]) := by show Blk _ _ _ _; rw [hw1.out]; exact (Blk.new w 36 #[.slice x P.length cap, .slice y l.length cm, .int .i64 z, .bool q]).al _
  have H2 : Hid (Blk w1 (w.heap.size + 1) 36 [.slice none 0 0, .slice none 0 0, .int .i64 0, .bool false]) := by show Blk _ _ _ _; rw [hw1.out]; exact Blk.newAt (w.alloc _) 36 #[.slice none 0 0, .slice none 0 0, .int .i64 0, .bool false] _ (by simp)
  clear hw1
  have xH1_0 := H1.out.cell 0
  have xH1_1 := H1.out.cell 1
  have xH1_2 := H1.out.cell 2
  have xH1_3 := H1.out.cell 3
  have lH1 := H1.out.lt
  simp only [List.getElem?_cons_zero, List.getElem?_cons_succ] at xH1_0 xH1_1 xH1_2 xH1_3
  go_wp2_with fail
  clear xH1_0 xH1_1 xH1_2 xH1_3 lH1
  refine (right_D x y P.length cap cm l z q w1 HPN.out HCB.out HV.out rd HEE.out).mono ?_
  rintro e w2 ⟨rfl, hb⟩
  replace HB := Lib.hid (HB.out.trans (hb.mono HB.out.size))
  replace HP := Lib.hid (HP.out.keep hb)
  replace HV := Lib.hid (HV.out.keep hb)
  replace HM := Lib.hid (HM.out.keep hb)
  replace H1 := Lib.hid (H1.out.keep hb)
  replace H2 := Lib.hid (H2.out.keep hb)
  clear hb
  cases rd
  · have hg := HG.out
    rw [crashP, if_pos HRD.out] at hg
    subst hg
    have h2 := H2.out
    go_wp2_with (first
      | (refine Agg.gBuild0 (.agg #[.slice none 0 0, .slice none 0 0, .int .i64 0, .bool false]) rfl rfl (fun W => zero_dev W) ?_; simp only [Act.put, List.setIfInBounds_toArray, List.set_cons_succ, List.set_cons_zero])
      | (refine Agg.gStoreB 4 [.slice none 0 0, .slice none 0 0, .int .i64 0, .bool false] h2 rfl rfl rfl rfl rfl (by decide +kernel) rfl rfl (by simp [Value.oneCell']) (fun w14 hb14 hg14 => ?_)))
    refine bodyPost_ret (results_row2 (m := 4) rfl hb14 rfl (by decide +kernel) rfl) rfl ⟨_, rfl, devR_zero _, ?_⟩
    exact HB.out.trans (grown_below hg14 HB.out.size (fun j hj => (by cases hj; omega)))
  · have hg := HG.out
    rw [crashP, if_neg (by rw [HRD.out]; decide)] at hg
    clear HG HEE
    go_wp2_with fail
    go_loopw [18, 7] (fun i u wr => ∃ k : Nat, k ≤ ms.length ∧ i = .int .i64 k ∧ masksB (ms.take k) = true ∧ wr = w2) (fun i _ _ => ms.length - (intOf i).toNat)
    case atStart => exact ⟨0, by omega, rfl, by simp [masksB], rfl⟩
    case round =>
      obtain ⟨k, hk, rfl, hmk, rfl⟩ := hrel
      have HMK := Lib.hid hmk
      clear hmk
      by_cases hlt : k < ms.length
      · obtain ⟨b, o, cap', hve, _, _, hcm, _⟩ := SlR.pos HM.out (by decide) (by omega)
        simp only [Value.slice.injEq, true_and] at hve
        obtain ⟨rfl, rfl⟩ := hve
        have hcs : wr.cell? ⟨b, o + k, none⟩ = some (.int .i64 ms[k]) := hcm k _ (by simp [iC, List.getElem?_eq_getElem hlt])
        have HMS := Lib.hid (masksB_succ ms k hlt)
        have HMB := Lib.hid (masksB_bad ms k hlt)
        generalize ms[k] = m at *
        by_cases hm0 : m < 0
        · have hbm : masksB ms = false := HMB.out (by simp; omega)
          rw [if_pos hbm] at hg
          subst hg
          have h2 := H2.out
          clear hbm
          go_wp2_with (first
            | (refine Agg.gBuild0 (.agg #[.slice none 0 0, .slice none 0 0, .int .i64 0, .bool false]) rfl rfl (fun W => zero_dev W) ?_; simp only [Act.put, List.setIfInBounds_toArray, List.set_cons_succ, List.set_cons_zero])
            | (refine Agg.gStoreB 4 [.slice none 0 0, .slice none 0 0, .int .i64 0, .bool false] h2 rfl rfl rfl rfl rfl (by decide +kernel) rfl rfl (by simp [Value.oneCell']) (fun w14 hb14 hg14 => ?_)))
          refine bodyPost_ret (results_row2 (m := 4) rfl hb14 rfl (by decide +kernel) rfl) rfl ⟨_, rfl, devR_zero _, ?_⟩
          exact HB.out.trans (grown_below hg14 HB.out.size (fun j hj => (by cases hj; omega)))
        · by_cases hm2 : m > 15
          · have hbm : masksB ms = false := HMB.out (by simp; omega)
            rw [if_pos hbm] at hg
            subst hg
            have h2 := H2.out
            clear hbm
            go_wp2_with (first
              | (refine Agg.gBuild0 (.agg #[.slice none 0 0, .slice none 0 0, .int .i64 0, .bool false]) rfl rfl (fun W => zero_dev W) ?_; simp only [Act.put, List.setIfInBounds_toArray, List.set_cons_succ, List.set_cons_zero])
              | (refine Agg.gStoreB 4 [.slice none 0 0, .slice none 0 0, .int .i64 0, .bool false] h2 rfl rfl rfl rfl rfl (by decide +kernel) rfl rfl (by simp [Value.oneCell']) (fun w14 hb14 hg14 => ?_)))
            refine bodyPost_ret (results_row2 (m := 4) rfl hb14 rfl (by decide +kernel) rfl) rfl ⟨_, rfl, devR_zero _, ?_⟩
            exact HB.out.trans (grown_below hg14 HB.out.size (fun j hj => (by cases hj; omega)))
          · have hm1 : 0 ≤ m := by omega
            have hm3 : m < 16 := by omega
            go_wp2_with fail
            go_roundw
            case rel => exact ⟨k + 1, by omega, by go_num, by rw [HMS.out, HMK.out]; simp [hm1, hm3], (by first | rfl | trivial)⟩
            case measure => simp [intOf]; omega
      · obtain rfl : k = ms.length := by omega
        have hbm := HMK.out
        rw [List.take_length] at hbm
        rw [if_neg (by rw [hbm]; decide)] at hg
        have HMA := Lib.hid hbm
        clear hbm HMK
        have l2 := H2.out.lt
        have hsz := HB.out.size
        obtain ⟨B, hB⟩ : ∃ B, wr.heap.size = B := ⟨_, rfl⟩
        have HFR : Hid (From wr wr) := Lib.hid (Below.refl _ _)
        have xH1_0 := H1.out.cell 0
        have xH1_1 := H1.out.cell 1
        have xH1_2 := H1.out.cell 2
        have xH1_3 := H1.out.cell 3
        have lH1 := H1.out.lt
        simp only [List.getElem?_cons_zero, List.getElem?_cons_succ] at xH1_0 xH1_1 xH1_2 xH1_3
        go_wp2_with fail
        clear xH1_0 xH1_1 xH1_2 xH1_3 lH1
        refine (copy_D x y cap cm P l z q wr HD1.out HD2.out HP.out HV.out).mono ?_
        rintro e w21 ⟨p, c, rfl, hp, hc, hb⟩
        replace HB := Lib.hid (HB.out.trans (hb.mono HB.out.size))
        replace HP := Lib.hid (HP.out.keep hb)
        replace HV := Lib.hid (HV.out.keep hb)
        replace H1 := Lib.hid (H1.out.keep hb)
        replace H2 := Lib.hid (H2.out.keep hb)
        replace HFR := Lib.hid (HFR.out.keep hb)
        replace HM := Lib.hid (HM.out.keep hb)
        clear hb
        have hB3 : B ≤ w21.heap.size := by have h := HFR.out; unfold From at h; rw [← hB]; exact h.size
        have HPO := Lib.hid hp
        have HCO := Lib.hid hc
        rw [hB] at HPO HCO l2
        obtain ⟨px, pc, rfl, _, _⟩ := (ownSl hp).shape
        obtain ⟨cx, cc, rfl, _, hcc⟩ := (ownSl hc).shape
        unfold maxLen at hcc
        clear hp hc HFR hB
        have h1 := H1.out
        go_upto_region 10 with (refine Agg.gStoreB 4 [.slice px P.length pc, .slice cx l.length cc, .int .i64 z, .bool q] h1 rfl rfl rfl rfl rfl (by decide +kernel) rfl rfl (by simp [Value.oneCell']) (fun w14 hb14 hg14 => ?_); clear h1)
        have hbA := HB.out.trans (grown_below hg14 HB.out.size (fun j hj => (by cases hj; omega)))
        have hp14 := HPO.out.kept hg14 (own_off HPO.out (by omega))
        have hc14 := HCO.out.kept hg14 (own_off HCO.out (by omega))
        have h214 := H2.out.far' hg14 (by omega)
        replace HB := Lib.hid hbA
        replace HPO := Lib.hid hp14
        replace HCO := Lib.hid hc14
        replace H1 := Lib.hid hb14
        replace H2 := Lib.hid h214
        have hB4 : B ≤ w14.heap.size := Nat.le_trans hB3 hg14.size
        clear hbA hp14 hc14 h214 hg14 hb14 HP HV hB3 HM
        have h24 := (right_parts HRD.out).1
        have HINR := Lib.hid (right_parts HRD.out).2.2.2.2
        have HW : Hid (∀ x ∈ l, (wrC x).length = 133) := Lib.hid (fun x hx => wrC_length x (HCB.out x hx))
        obtain ⟨gg, o', pc', hve, _, _, _, _⟩ := SlR.pos (ownSl HPO.out) (by decide) (by omega)
        simp only [Value.slice.injEq, true_and] at hve
        obtain ⟨rfl, rfl⟩ := hve
        obtain rfl : o' = 0 := by
          rcases HPO.out.2 with ⟨h, _⟩ | ⟨g', cap', cur, h, _⟩
          · cases h
          · cases h; rfl
        obtain ⟨r, hk0, hbg, hpc1, hpc2, hrl⟩ := own_blk HPO.out
        have HRL := Lib.hid (And.intro hbg (And.intro hpc1 (And.intro hpc2 hrl)))
        have HK0 := Lib.hid hk0
        have hln : (l.length : Int) ≤ 1000000 := by have := HD2.out; omega
        have hpln : (P.length : Int) ≤ 1000000 := by have := HD1.out; omega
        clear hk0 hpc1 hpc2 hrl HPO
        have xH1_0 := H1.out.cell 0
        have xH1_1 := H1.out.cell 1
        have xH1_2 := H1.out.cell 2
        have xH1_3 := H1.out.cell 3
        have lH1 := H1.out.lt
        simp only [List.getElem?_cons_zero, List.getElem?_cons_succ] at xH1_0 xH1_1 xH1_2 xH1_3
        go_upto_region 11 with (fail)
        clear xH1_0 xH1_1 xH1_2 xH1_3 lH1
        go_loopw [35, 9] (fun i _ wr => ∃ k : Nat, k ≤ l.length ∧ k ≤ ms.length ∧ i = .int .i64 k ∧ Below w.heap.size w wr ∧ Blk wr w.heap.size 36 [.slice (some ⟨gg, 0, none⟩) P.length pc, .slice cx l.length cc, .int .i64 z, .bool q] ∧ Blk wr (w.heap.size + 1) 36 [.slice none 0 0, .slice none 0 0, .int .i64 0, .bool false] ∧ Blk wr gg 46 ((settleBy P (l.take k) ms).flatMap blkC ++ r) ∧ wr.ownsRow B 48 133 (.slice cx l.length cc) l.length (l.flatMap wrC)) (fun i _ _ => l.length - (intOf i).toNat)
        case atStart => exact ⟨0, by omega, by omega, rfl, HB.out, H1.out, H2.out, by cases ms <;> exact HK0.out, HCO.out⟩
        case round =>
          obtain ⟨k, hk, hkms, rfl, hb, h1, h2, h3, h4⟩ := hrel
          obtain ⟨wA, hwA⟩ : ∃ x, x = wr := ⟨_, rfl⟩
          subst hwA
          replace HB := Lib.hid hb
          replace H1 := Lib.hid h1
          replace H2 := Lib.hid h2
          have HG := Lib.hid h3
          replace HCO := Lib.hid h4
          have HSO := Lib.hid (settleBy_ok HPB.out (l.take k) ms (fun x hx => HCB.out x (List.mem_of_mem_take hx)))
          have HMW := Lib.hid (SlR.keep HM0.out HB.out)
          clear hb h1 h2 h3 h4
          by_cases hlt : k < l.length
          · obtain ⟨b2, o2, cap2, hve, _, _, _, _⟩ := SlR.pos (ownSl HCO.out) (by decide) (by omega)
            simp only [Value.slice.injEq, true_and] at hve
            obtain ⟨rfl, rfl⟩ := hve
            have hcs := flat_at wrC 133 (by decide) (ownSl HCO.out) HW.out hlt
            have h133 := HW.out _ (List.getElem_mem hlt)
            have h1 := wrC_one l[k]
            have HBO2 := Lib.hid (HCB.out _ (List.getElem_mem hlt))
            have HTH := Lib.hid (HINR.out _ (List.getElem_mem hlt))
            have HST := Lib.hid (settleBy_take P l ms k hlt)
            have HFU := Lib.hid (fun h => settleBy_full P l ms k (Nat.le_of_lt hlt) h)
            generalize l[k] = u at *
            generalize settleBy P (l.take k) ms = Q at *
            obtain ⟨uk, ub⟩ := u
            obtain ⟨p, hp1, hp2⟩ := there_nat HTH.out
            dsimp only at hp1
            subst hp1
            rw [← HSO.out.1] at hp2
            have hpn : (p : Int) < P.length := by have := HSO.out.1; omega
            go_upto_region 13 with (first
              | (refine Agg.gLoad 133 (wrC ((p : Int), ub)) rfl rfl rfl (by decide +kernel) h133 hcs ?_; simp only [Act.put, List.setIfInBounds_toArray, List.set_cons_succ, List.set_cons_zero])
              | (refine Agg.allocRow 48 wr0.toArray rfl rfl (by kernel_rfl) ?_; simp only [Act.put, List.setIfInBounds_toArray, List.set_cons_succ, List.set_cons_zero])
              | (refine Agg.gStoreNew 133 (wrC ((p : Int), ub)) rfl rfl rfl rfl rfl rfl (by decide +kernel) h133 wr0_size h1 ?_; simp only [Act.put]))
            have HBX := Lib.hid (Blk.new wA 48 (wrC ((p : Int), ub)).toArray)
            have hbA : Below wA.heap.size wA (wA.alloc (.cells (wrC ((p : Int), ub)).toArray 48)) := (Below.refl _ _).alloc (Nat.le_refl _) _
            have HBB := Lib.hid (HB.out.trans (hbA.mono HB.out.size))
            have H1B := Lib.hid (H1.out.keep hbA)
            have H2B := Lib.hid (H2.out.keep hbA)
            have HGB := Lib.hid (HG.out.keep hbA)
            have HCB2 := Lib.hid (own_keep HCO.out hbA)
            have HMB := Lib.hid (SlR.keep HMW.out hbA)
            have HGS := Lib.hid HG.out.lt
            refine Agg.wp_at fun wB hwB => ?_
            rw [← hwB.out] at HBX H1B H2B HGB HCB2 HBB HMB
            clear hwB hcs h1 h133 hbA HB H1 H2 HG HCO HMW
            by_cases hkm : k < ms.length
            · have hkmb : ((k : Int) == (ms.length : Int)) = false := by simp; omega
              have hkmi : (k : Int) < ms.length := by omega
              obtain ⟨mb, mo, cap', hve, _, _, hcm, _⟩ := SlR.pos HMB.out (by decide) (by omega)
              simp only [Value.slice.injEq, true_and] at hve
              obtain ⟨rfl, rfl⟩ := hve
              have hcm1 : wB.cell? ⟨mb, mo + k, none⟩ = some (.int .i64 ms[k]) := hcm k _ (by simp [iC, List.getElem?_eq_getElem hkm])
              have HST2 := Lib.hid (HST.out hkm)
              have HMR := Lib.hid (masksB_mem HMA.out _ (List.getElem_mem hkm))
              generalize ms[k] = m at *
              clear hcm HST HFU
              go_upto_region 16 with (fail)
              have HOQ : Hid (BOk Q[p]) := Lib.hid (HSO.out.2 _ (List.getElem_mem hp2))
              have HZQ : Hid (Q.set p (mixTo Q[p] ub m 0) = Q) := Lib.hid (by rw [mixTo_zero _ _ HOQ.out.1]; exact List.set_getElem_self hp2)
              have HSQ : Hid (settle Q ((p : Int), ub) m = Q.set p (mixTo Q[p] ub m 4)) := Lib.hid (by
                unfold settle
                rw [Int.toNat_natCast, List.getD_eq_getElem?_getD, List.getElem?_eq_getElem hp2, mixTo_all]; rfl)
              obtain ⟨old, hold⟩ : ∃ b, Q[p] = b := ⟨_, rfl⟩
              rw [hold] at HOQ HZQ HSQ
              have HWI := Lib.hid (Below.refl wB.heap.size wB)
              have hkl : k < l.length := hlt
              clear hold hcm1
              go_loopw [48, 10] (fun j mv wr => ∃ i : Nat, i ≤ 4 ∧ j = .int .i64 i ∧ mv = .int .i64 (m / 2 ^ i) ∧ Below w.heap.size w wr ∧ Blk wr w.heap.size 36 [.slice (some ⟨gg, 0, none⟩) P.length pc, .slice (some ⟨b2, o2, none⟩) l.length cc, .int .i64 z, .bool q] ∧ Blk wr (w.heap.size + 1) 36 [.slice none 0 0, .slice none 0 0, .int .i64 0, .bool false] ∧ Blk wr gg 46 ((Q.set p (mixTo old ub m i)).flatMap blkC ++ r) ∧ wr.ownsRow B 48 133 (.slice (some ⟨b2, o2, none⟩) l.length cc) l.length (l.flatMap wrC) ∧ Blk wr wA.heap.size 48 (wrC ((p : Int), ub))) (fun j _ _ => 4 - (intOf j).toNat)
              case atStart => exact ⟨0, by omega, rfl, by simp, HBB.out, H1B.out, H2B.out, by rw [HZQ.out]; exact HGB.out, HCB2.out, HBX.out⟩
              case round =>
                obtain ⟨i, hi, rfl, rfl, hb, h1, h2, h3, h4, h5⟩ := hrel
                obtain ⟨wC, hwC⟩ : ∃ x, x = wr := ⟨_, rfl⟩
                subst hwC
                have HB := Lib.hid hb
                have HT := Lib.hid h1
                have H2C := Lib.hid h2
                have HM := Lib.hid h3
                have HCC := Lib.hid h4
                have HWC := Lib.hid h5
                clear hb h1 h2 h3 h4 h5
                by_cases hlt4 : i < 4
                · have hmn : 0 ≤ m / 2 ^ i := Int.ediv_nonneg HMR.out.1 (Int.pow_nonneg (by decide))
                  have HY := Lib.hid (mixTo_yes old ub HBO2.out.1 m i hlt4)
                  have HNO := Lib.hid (mixTo_no old ub m i)
                  have HV2 : Hid (m / 2 ^ (i + 1) = m / 2 ^ i / 2) := Lib.hid (by rw [Int.pow_succ, Int.ediv_ediv_of_nonneg (Int.pow_nonneg (by decide))])
                  obtain ⟨v, hv⟩ : ∃ v, m / 2 ^ i = v := ⟨_, rfl⟩
                  have hv15 : v < 16 := by
                    have := Int.ediv_le_self (b := 2 ^ i) HMR.out.1
                    have := HMR.out.2
                    omega
                  rw [hv] at HY HNO HV2 hmn ⊢
                  have hvd : v.tdiv 2 = v / 2 := Int.tdiv_eq_ediv_of_nonneg hmn
                  have hvm : v.tmod 2 = v % 2 := Int.tmod_eq_emod_of_nonneg hmn
                  have hi4 : (i : Int) < 4 := by omega
                  by_cases hq : v % 2 = 1
                  · have hqb : (v.tmod 2 == 1) = true := by rw [hvm]; simp [hq]
                    have hin : i < ub.length := by rw [HBO2.out.1]; exact hlt4
                    have hc33 := blkC_sec ub HBO2.out.len i hin []
                    rw [List.append_nil] at hc33
                    have h33 := secC_length _ (HBO2.out.len _ (List.getElem_mem hin))
                    have HCS : Hid (∀ j v, (secC ub[i])[j]? = some v → wC.cell? ⟨wA.heap.size, 0 + 1 + i * 33 + j, none⟩ = some v) := by
                      refine Lib.hid (fun j v hj => ?_)
                      rw [HWC.out.cell, show 0 + 1 + i * 33 + j = (i * 33 + j) + 1 by omega]
                      have : j < 33 := by have := (List.getElem?_eq_some_iff.1 hj).1; omega
                      rw [← hc33, List.getElem?_take_of_lt this, List.getElem?_drop] at hj
                      exact hj
                    have h1 := secC_one ub[i]
                    have hmb := mixTo_bok HOQ.out HBO2.out m i
                    have hset := pgs_set (Q.set p (mixTo old ub m i)) (set_bok HSO.out.2 p hmb) p (by rw [List.length_set]; exact hp2) i hlt4 ub[i] (HBO2.out.len _ (List.getElem_mem hin)) r
                    rw [List.getElem_set_self, List.set_set, HY.out hq] at hset
                    have hfit : p * 132 + i * 33 + 33 ≤ ((Q.set p (mixTo old ub m i)).flatMap blkC ++ r).length := by
                      rw [List.length_append, flat_len blkC 132 _ (fun b hb => bok_cells (set_bok HSO.out.2 p hmb b hb)), List.length_set]
                      have : (p + 1) * 132 ≤ Q.length * 132 := Nat.mul_le_mul_right _ hp2
                      omega
                    have hm := HM.out
                    have H33 := Lib.hid h33
                    generalize ub[i] = s at *
                    clear hq hc33 hmb
                    go_upto_region 19 with (fail)
                    refine Agg.chainR 11 (by kernel_rfl) (by kernel_rfl) ?_
                    simp only [List.take_succ_cons, List.take_zero, List.drop_succ_cons, List.drop_zero]
                    refine Agg.chFA fo_fo_Dev_0 rfl rfl rfl rfl ?_
                    refine Agg.chLoadB HT.out (by decide +kernel) rfl rfl (by rfl) rfl rfl ?_
                    refine Agg.chFA fo_fo_Wr_0 rfl rfl rfl rfl ?_
                    refine Agg.chLoadB HWC.out (by decide +kernel) rfl rfl (by rfl) rfl rfl ?_
                    refine Agg.chMove rfl rfl rfl rfl ?_
                    refine Agg.chMove rfl rfl rfl rfl ?_
                    refine Agg.chFA fo_fo_Wr_1 rfl rfl rfl rfl ?_
                    refine Agg.chIAA aiBl (by omega) (by omega) rfl rfl rfl rfl rfl ?_
                    refine Agg.chRowAt 33 (secC s) H33.out (by decide +kernel) rfl rfl rfl rfl (by rw [Int.toNat_natCast]; exact HCS.out) ?_
                    refine Agg.chIA tiBl (by omega) (by omega) rfl rfl rfl rfl rfl ?_
                    refine Agg.chIAA aiBl (by omega) (by omega) rfl rfl rfl rfl rfl ?_
                    refine Agg.chEnd ?_
                    intro vs w61 hb hf
                    simp only [List.reverse, List.reverseAux, Agg.Facts] at hf
                    obtain _ := hf
                    simp only [List.reverse, List.reverseAux, Agg.fill, List.set_cons_succ, List.set_cons_zero]
                    simp only [Nat.zero_add, Int.toNat_natCast]
                    refine Agg.gStoreMid 33 (p * 132 + i * 33) (secC s) (hm.keep hb) rfl rfl rfl rfl rfl (by decide +kernel) H33.out hfit h1 (fun w12 hb12 hg12 => ?_)
                    rw [hset] at hb12
                    have hsC := HB.out.size
                    have hbA := HB.out.trans (hb.mono HB.out.size)
                    have hgl := HM.out.lt
                    have hne : wA.heap.size ≠ gg := by have := HGS.out; omega
                    have hwA := (HWC.out.keep hb).far' hg12 hne
                    have htA := (HT.out.keep hb).far' hg12 (by omega)
                    have h2A := (H2C.out.keep hb).far' hg12 (by omega)
                    have hcA := (own_keep HCC.out hb).kept hg12 (own_apart (own_keep HCC.out hb) (HM.out.keep hb) (Ne.symm bWne))
                    have hbB := hbA.trans (grown_below hg12 hbA.size (fun j hj => by cases hj; omega))
                    refine Agg.wpNil ?_
                    clear hset hfit h1 hm hg12 hb HM HT HWC H2C HCC hkl
                    go_wp2_with fail
                    go_roundw
                    case rel => exact ⟨i + 1, by omega, by go_num, by rw [HV2.out], hbB, htA, h2A, hb12, hcA, hwA⟩
                    case measure => simp [intOf]; omega
                  · have hqb : (v.tmod 2 == 1) = false := by rw [hvm]; simpa using hq
                    clear hkl
                    go_wp2_with fail
                    go_roundw
                    case rel => exact ⟨i + 1, by omega, by go_num, by rw [HV2.out], HB.out, HT.out, H2C.out, by rw [← HNO.out hq]; exact HM.out, HCC.out, HWC.out⟩
                    case measure => simp [intOf]; omega
                · obtain rfl : i = 4 := by omega
                  rw [← HSQ.out, ← HST2.out] at HM
                  go_wp2_with fail
                  go_roundw
                  case rel => exact ⟨k + 1, by omega, by omega, by go_num, HB.out, HT.out, H2C.out, HM.out, HCC.out⟩
                  case measure => simp [intOf]; omega
            · obtain rfl : k = ms.length := by omega
              have hkmb : ((ms.length : Int) == (ms.length : Int)) = true := by simp
              have HF2 := Lib.hid (HFU.out (Nat.le_refl _))
              have h2 := H2B.out
              have xH1B_0 := H1B.out.cell 0
              have xH1B_1 := H1B.out.cell 1
              have xH1B_2 := H1B.out.cell 2
              have xH1B_3 := H1B.out.cell 3
              have lH1B := H1B.out.lt
              simp only [List.getElem?_cons_zero, List.getElem?_cons_succ] at xH1B_0 xH1B_1 xH1B_2 xH1B_3
              subst hg
              go_wp2_with (first
                | (refine Agg.gStoreB 4 [.slice (some ⟨gg, 0, none⟩) P.length pc, .slice none 0 0, .int .i64 (-1), .bool false] h2 rfl rfl rfl rfl rfl (by decide +kernel) rfl rfl (by simp [Value.oneCell']) (fun w16 hb16 hg16 => ?_)))
              have hb6 := HBB.out.trans (grown_below hg16 HBB.out.size (fun j hj => by cases hj; omega))
              have hg6 := HGB.out.far' hg16 (by omega)
              rw [HF2.out] at hg6 HSO
              have HO7 := blk_own hg6 hbg HRL.out.2.1 HRL.out.2.2.1 (sz := 132) (n := P.length) (by rw [List.length_append, flat_len blkC 132 _ (fun b hb => bok_cells (HSO.out.2 b hb)), HSO.out.1, ← flat_len blkC 132 P (fun b hb => bok_cells (HPB.out b hb)), ← List.length_append]; exact HRL.out.2.2.2) (by rw [flat_len blkC 132 _ (fun b hb => bok_cells (HSO.out.2 b hb)), HSO.out.1])
              refine bodyPost_ret (results_row2 (m := 4) rfl hb16 rfl (by decide +kernel) rfl) rfl ⟨_, rfl, DevO.read (base := B) ⟨.slice (some ⟨gg, 0, none⟩) P.length pc, .slice none 0 0, rfl, ?_, World.ownsRow_nil _ _ _ _⟩, hb6⟩
              show w16.ownsRow B _ 132 _ (settleBy P l ms).length _
              rw [HSO.out.1]
              exact HO7
          · obtain rfl : k = l.length := by omega
            rw [List.take_length] at HSO HG
            have h2 := H2.out
            have xH1_0 := H1.out.cell 0
            have xH1_1 := H1.out.cell 1
            have xH1_2 := H1.out.cell 2
            have xH1_3 := H1.out.cell 3
            have lH1 := H1.out.lt
            simp only [List.getElem?_cons_zero, List.getElem?_cons_succ] at xH1_0 xH1_1 xH1_2 xH1_3
            subst hg
            go_wp2_with (first
              | (refine Agg.gStoreB 4 [.slice (some ⟨gg, 0, none⟩) P.length pc, .slice none 0 0, .int .i64 (-1), .bool false] h2 rfl rfl rfl rfl rfl (by decide +kernel) rfl rfl (by simp [Value.oneCell']) (fun w16 hb16 hg16 => ?_)))
            have hb6 := HB.out.trans (grown_below hg16 HB.out.size (fun j hj => by cases hj; omega))
            have hg6 := HG.out.far' hg16 (by omega)
            have HO7 := blk_own hg6 hbg HRL.out.2.1 HRL.out.2.2.1 (sz := 132) (n := P.length) (by rw [List.length_append, flat_len blkC 132 _ (fun b hb => bok_cells (HSO.out.2 b hb)), HSO.out.1, ← flat_len blkC 132 P (fun b hb => bok_cells (HPB.out b hb)), ← List.length_append]; exact HRL.out.2.2.2) (by rw [flat_len blkC 132 _ (fun b hb => bok_cells (HSO.out.2 b hb)), HSO.out.1])
            refine bodyPost_ret (results_row2 (m := 4) rfl hb16 rfl (by decide +kernel) rfl) rfl ⟨_, rfl, DevO.read (base := B) ⟨.slice (some ⟨gg, 0, none⟩) P.length pc, .slice none 0 0, rfl, ?_, World.ownsRow_nil _ _ _ _⟩, hb6⟩
            show w16.ownsRow B _ 132 _ (settleBy P l ms).length _
            rw [HSO.out.1]
            exact HO7
end Go.Proofs.Ytapdigcpaebjiaa
