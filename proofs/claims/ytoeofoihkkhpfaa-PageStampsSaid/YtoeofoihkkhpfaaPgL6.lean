/-
  THE WALK OF LAYER 17's STATEMENT PageStamps.
-/
import Derived.Test.YtoeofoihkkhpfaaPgJ
import Derived.Deep.DeepCutAuto
namespace Go.Proofs.Ytoeofoihkkhpfaa
open Go.ChangeShapes Go.WideShapes Go.ChangeAt Go.RowKit Agg Pg

theorem any_snoc (S b : List Sec) (p : Sec → Bool) (j : Nat) (h : j < b.length) : (S ++ b.take (j + 1)).any p = ((S ++ b.take j).any p || p b[j]) := by
  rw [List.take_succ_eq_append_getElem h, ← List.append_assoc, List.any_append]; simp
theorem int_beq (a b : Nat) : ((a : Int) == (b : Int)) = (a == b) := by
  by_cases h : a = b
  · subst h; simp
  · have h1 : (a == b) = false := by simpa using h
    rw [h1, beq_eq_false_iff_ne]; omega
theorem met_all (t : List (List Sec)) (ht : ∀ b ∈ t, BOk b) : ((t.length == 0) || t.flatten.any (fun s => s.1 == grB t)) = true := by
  rw [Bool.or_eq_true]
  cases t with
  | nil => exact .inl rfl
  | cons b r =>
    right
    rw [List.any_eq_true]
    rcases grS_met (b :: r).flatten with h | ⟨s, hs, h⟩
    · have hb := (ht b (by simp)).1
      have hm : b[0]'(by omega) ∈ (b :: r).flatten := by
        rw [List.flatten_cons, List.mem_append]; exact .inl (List.getElem_mem _)
      have hle := le_grS _ _ hm
      rw [h] at hle
      refine ⟨_, hm, ?_⟩
      have : grB (b :: r) = 0 := h
      rw [this, beq_iff_eq]; omega
    · exact ⟨s, hs, by rw [beq_iff_eq]; exact h⟩
set_option maxHeartbeats 8000000 in
set_option maxRecDepth 100000 in
theorem stamps_any (l : List (List Sec)) (hl : ∀ b ∈ l, BOk b) (v : Value) (w : World) (hv : Blks w v l) :
    Calls Try.prog 9 #[v] w fun e w' => e = .returned (.bool true) ∧ Below w.heap.size w w' := by
  obtain ⟨x, cap, rfl, hcap, hmax⟩ := SlR.shape hv
  unfold maxLen at hmax
  have HV := Lib.hid hv
  have HL := Lib.hid hl
  clear hv hl
  have HB := Lib.hid (Below.refl w.heap.size w)
  go_enter Try.func9, Try.ntmps9
  go_wp2_with fail
  refine (wakes_any w).mono ?_
  rintro e w1 ⟨rfl, hb⟩
  replace HB := Lib.hid (HB.out.trans (hb.mono HB.out.size))
  replace HV := Lib.hid (HV.out.keep hb)
  clear hb
  obtain ⟨m, hm⟩ : ∃ m, m = min l.length 60 := ⟨_, rfl⟩
  have hm1 : m ≤ l.length := by omega
  have hm2 : m ≤ 60 := by omega
  have hme : min (l.length : Int) 60 = (m : Int) := by omega
  have hmc : (m : Int) ≤ cap := by omega
  have hsl := Lib.hid (blks_take HV.out (fun b hb => bok_cells (HL.out b hb)) m hm1)
  have hone := flat_one (l.take m)
  have HLT : Hid (∀ b ∈ l.take m, BOk b) := Lib.hid (fun b hb => HL.out b (List.mem_of_mem_take hb))
  have HTL : Hid ((l.take m).length = m) := Lib.hid (by rw [List.length_take]; omega)
  have hown := Lib.hid (World.ownsRow_lit (e := 36) (size := 132) (base := w1.heap.size) w1 #[] 0 (Nat.le_refl _) (by decide) rfl)
  have hsl2 := Lib.hid (SlR.keep hsl.out ((Below.refl _ w1).alloc (Nat.le_refl _) (.cells #[] 36)))
  clear hm
  generalize l.take m = t at *
  go_upto_region 4 with (first
    | (refine Agg.min2 _ _ _ (m : Int) rfl rfl rfl rfl hme ?_; simp only [Act.put, List.setIfInBounds_toArray, List.set_cons_succ, List.set_cons_zero])
    | (refine Agg.append2 tiBl _ _ rfl rfl w1.heap.size rfl hown.out rfl hsl2.out hone (by unfold maxLen; omega) (by omega) (by simp only [World.size_alloc]; omega) ?_; intro vz wz ho2 hg2 _; simp only [Act.put, List.setIfInBounds_toArray, List.set_cons_succ, List.set_cons_zero]))
  have hby : Blks wz vz t := by
    show SlR _ _ _ _ _
    rw [HTL.out]
    have := ownSl ho2
    rwa [Nat.zero_add, List.nil_append] at this
  have hbz : Below w1.heap.size w1 wz := ((Below.refl _ w1).alloc (Nat.le_refl _) _).trans (grown_below hg2 (by simp only [World.size_alloc]; omega) (own_block hown.out))
  have HBY := Lib.hid hby
  obtain ⟨xz, cz, rfl, _, hmz⟩ := (ownSl ho2).shape
  unfold maxLen at hmz
  simp only [Nat.zero_add] at HBY hmz ⊢
  clear hown hsl hsl2 ho2 hg2 hone hby hme hmc HL
  have HMET := Lib.hid (met_all t HLT.out)
  have HLE : Hid (∀ s ∈ t.flatten, s.1 ≤ grB t) := Lib.hid (le_grS _)
  have HNIL : Hid (t.length = 0 → grB t = 0) := Lib.hid (fun h => by rw [List.eq_nil_of_length_eq_zero h]; rfl)
  rw [← HTL.out] at hm1 hm2 HBY ⊢
  have hb := hbz
  replace HB := Lib.hid (HB.out.trans (hb.mono HB.out.size))
  replace HV := Lib.hid (HV.out.keep hb)
  clear hb
  go_wp2_with fail
  refine (great_any t HLT.out _ wz HBY.out).mono ?_
  rintro e w2 ⟨rfl, hb⟩
  replace HB := Lib.hid (HB.out.trans (hb.mono HB.out.size))
  replace HBY := Lib.hid (HBY.out.keep hb)
  clear hb
  generalize grB t = n at *
  obtain ⟨e0, he0⟩ : ∃ e0, (t.length == 0) = e0 := ⟨_, rfl⟩
  have hei : ((t.length : Int) == 0) = e0 := by rw [← he0]; exact int_beq t.length 0
  have HE0 := Lib.hid he0
  rw [he0] at HMET
  clear he0
  go_wp2_with fail
  go_loopw [28, 4] (fun i v wr => ∃ k : Nat, k ≤ t.length ∧ i = .int .i64 k ∧ v = .bool (e0 || (t.take k).flatten.any (fun s => s.1 == n)) ∧ From w2 wr) (fun i _ _ => t.length - (intOf i).toNat)
  case atStart => exact ⟨0, by omega, rfl, by simp, Below.refl _ _⟩
  case round =>
    obtain ⟨k, hk, rfl, rfl, hb⟩ := hrel
    have hb : Below w2.heap.size w2 wr := hb
    have HK : Hid (From w2 wr) := Lib.hid hb
    have hb := hb
    replace HB := Lib.hid (HB.out.trans (hb.mono HB.out.size))
    replace HBY := Lib.hid (HBY.out.keep hb)
    clear hb
    by_cases hlt : k < t.length
    · obtain ⟨b, o, cap', hve, _, _, _, _⟩ := SlR.pos HBY.out (by decide) (by omega)
      simp only [Value.slice.injEq, true_and] at hve
      obtain ⟨rfl, rfl⟩ := hve
      have hc := blks_at HBY.out (fun b hb => bok_cells (HLT.out b hb)) hlt
      have HS := Lib.hid (flat_succ t k hlt)
      have HBO := Lib.hid (HLT.out _ (List.getElem_mem hlt))
      have HIN : Hid (∀ s ∈ t[k], s ∈ t.flatten) := Lib.hid (fun s hs => List.mem_flatten.2 ⟨_, List.getElem_mem hlt, hs⟩)
      obtain ⟨S, hS⟩ : ∃ S, S = (t.take k).flatten := ⟨_, rfl⟩
      rw [← hS] at HS ⊢
      clear hS
      generalize t[k] = s at *
      have h132 := bok_cells HBO.out
      have h1 := blkC_one s
      go_wp2_with (first
        | (refine Agg.gLoad 132 (blkC s) rfl rfl rfl (by decide +kernel) h132 hc ?_; simp only [Act.put, List.setIfInBounds_toArray, List.set_cons_succ, List.set_cons_zero])
        | (refine Agg.allocRow 36 (blkC zeroB).toArray rfl rfl (by kernel_rfl) ?_; simp only [Act.put, List.setIfInBounds_toArray, List.set_cons_succ, List.set_cons_zero])
        | (refine Agg.gStoreNew 132 (blkC s) rfl rfl rfl rfl rfl rfl (by decide +kernel) h132 (by simp [zero132]) h1 ?_; simp only [Act.put])
        | (refine Agg.gLoadB 132 (Blk.new _ _ (blkC s).toArray) h132 rfl rfl rfl (by decide +kernel) ?_; simp only [Act.put, List.setIfInBounds_toArray, List.set_cons_succ, List.set_cons_zero]))
      clear hc h1
      refine Agg.calls_at fun w3 hw3 => ?_
      have hb : Below wr.heap.size wr w3 := by rw [hw3.out]; repeat (first | exact Below.refl _ _ | refine Agg.bel_drew ?_ | refine Agg.bel_alloc ?_ _)
      replace HB := Lib.hid (HB.out.trans (hb.mono HB.out.size))
      replace HBY := Lib.hid (HBY.out.keep hb)
      replace HK := Lib.hid (HK.out.keep hb)
      clear hb
      have H6 : Hid (Blk w3 wr.heap.size 36 (blkC s)) := by show Blk _ _ _ _; rw [hw3.out]; exact Blk.new wr 36 (blkC s).toArray
      clear hw3
      generalize wr.heap.size = g6 at *
      obtain ⟨q, hq⟩ : ∃ q, stampB s = q := ⟨_, rfl⟩
      refine (stamp_any s HBO.out w3 q hq).mono ?_
      rintro e w4 ⟨rfl, hb⟩
      replace HB := Lib.hid (HB.out.trans (hb.mono HB.out.size))
      replace HBY := Lib.hid (HBY.out.keep hb)
      replace HK := Lib.hid (HK.out.keep hb)
      replace H6 := Lib.hid (H6.out.keep hb)
      clear hb
      have HQ : Hid ((decide (stampP (st0 s)) && s.all fun x => x.1 == st0 s) = q) := Lib.hid hq
      obtain ⟨sv, hsv⟩ : ∃ sv : Nat, (if q then st0 s else 0) = sv := ⟨_, rfl⟩
      rw [hsv]
      have HSV := Lib.hid hsv
      clear hq hsv
      have HC0 : Hid (∀ w', Blk w' g6 36 (blkC s) → w'.cell? ⟨g6, 0, none⟩ = some (.int .u64 (st0 s : Int))) := by
        refine Lib.hid (fun w' h => ?_)
        have h0 := blkC_stamp s HBO.out.len 0 (by have := HBO.out.1; omega) []
        rw [List.append_nil, ← st0_get] at h0
        rw [h.cell]; simpa using h0
      generalize st0 s = n0 at *
      have hc0 := HC0.out w4 H6.out
      go_upto_region 9 with (fail)
      go_cut [9] (fun v wx => v = .bool (decide (stampP n0)) ∧ wx = w4)
      case first =>
        by_cases p1 : (n0 : Int) > 0
        · by_cases p2 : (n0 : Int) ≤ 4611686018427387904
          · have hd : decide (stampP n0) = true := decide_eq_true ⟨by omega, by omega⟩
            go_wp2_with fail
            go_meet
            exact ⟨congrArg Value.bool hd.symm, rfl⟩
          · have hd : decide (stampP n0) = false := decide_eq_false (fun h => by have := h.2; omega)
            go_wp2_with fail
            go_meet
            exact ⟨congrArg Value.bool hd.symm, rfl⟩
        · have hd : decide (stampP n0) = false := decide_eq_false (fun h => by have := h.1; omega)
          go_wp2_with fail
          go_meet
          exact ⟨congrArg Value.bool hd.symm, rfl⟩
      case rest =>
        obtain ⟨rfl, rfl⟩ := hcut
        have hc1 := HC0.out wc H6.out
        have h6 := H6.out
        go_wp2_with (refine Agg.gLoadB 132 h6 h132 rfl rfl rfl (by decide +kernel) ?_; simp only [Act.put, List.setIfInBounds_toArray, List.set_cons_succ, List.set_cons_zero])
        clear h6 hc0 hc1
        obtain ⟨wo, hwo⟩ : ∃ x, x = wc := ⟨_, rfl⟩
        subst hwo
        go_loopw [48, 4, 9] (fun i v4 v9 wr => ∃ j : Nat, j ≤ 4 ∧ i = .int .i64 j ∧ v4 = .bool (e0 || (S ++ s.take j).any (fun s => s.1 == n)) ∧ v9 = .bool (decide (stampP n0) && (s.take j).all (fun x => x.1 == n0)) ∧ From wo wr) (fun i _ _ _ => 4 - (intOf i).toNat)
        case atStart => exact ⟨0, by omega, rfl, by simp, by simp, Below.refl _ _⟩
        case round =>
          obtain ⟨j, hj, rfl, rfl, rfl, hb⟩ := hrel
          have hb : Below wo.heap.size wo wr := hb
          have HJ : Hid (From wo wr) := Lib.hid hb
          have hb := hb
          replace HB := Lib.hid (HB.out.trans (hb.mono HB.out.size))
          replace HBY := Lib.hid (HBY.out.keep hb)
          replace HK := Lib.hid (HK.out.keep hb)
          replace H6 := Lib.hid (H6.out.keep hb)
          clear hb
          by_cases hlt2 : j < 4
          · have hjb : j < s.length := by rw [HBO.out.1]; exact hlt2
            have hel := blkC_sec s HBO.out.len j hjb []
            rw [List.append_nil] at hel
            have h33 := secC_length _ (HBO.out.len _ (List.getElem_mem hjb))
            have h1 := secC_one s[j]
            have HA := Lib.hid (any_snoc S s (fun s => s.1 == n) j hjb)
            have HLL := Lib.hid (all_take_succ s (fun x => x.1 == n0) j hjb)
            have hle : s[j].1 ≤ n := HLE.out _ (HIN.out _ (List.getElem_mem hjb))
            generalize s[j] = x at *
            have hng0 : ¬ (x.1 : Int) > (n : Int) := by omega
            have hng : decide ((x.1 : Int) > (n : Int)) = false := decide_eq_false (by omega)
            obtain ⟨r4, hr4⟩ : ∃ r, (x.1 == n) = r := ⟨_, rfl⟩
            obtain ⟨r9, hr9⟩ : ∃ r, (x.1 == n0) = r := ⟨_, rfl⟩
            have hi4 : ((x.1 : Int) == (n : Int)) = r4 := by rw [int_beq]; exact hr4
            have hi9 : ((x.1 : Int) == (n0 : Int)) = r9 := by rw [int_beq]; exact hr9
            have HR4 := Lib.hid hr4
            have HR9 := Lib.hid hr9
            obtain ⟨m4, hm4⟩ : ∃ r, (e0 || (S ++ s.take j).any (fun s => s.1 == n)) = r := ⟨_, rfl⟩
            obtain ⟨m9, hm9⟩ : ∃ r, (decide (stampP n0) && (s.take j).all (fun x => x.1 == n0)) = r := ⟨_, rfl⟩
            rw [hm4, hm9]
            have HM4 := Lib.hid hm4
            have HM9 := Lib.hid hm9
            clear hm4 hm9 hr4 hr9 hle
            have hc2 := HC0.out _ (H6.out.al (.cells (secC x).toArray 34))
            have hs0 : ∀ h, (secC x)[0]'h = .int .u64 (x.1 : Int) := fun _ => rfl
            cases m4 <;> cases m9
            · go_wp2_with (first
                | (refine Agg.gIndexRow aiB (by decide +kernel) (secC x) hlt2 hel rfl rfl rfl rfl ?_; simp only [Act.put, List.setIfInBounds_toArray, List.set_cons_succ, List.set_cons_zero])
                | (refine Agg.allocRow 34 sec0.toArray rfl rfl (by kernel_rfl) ?_; simp only [Act.put, List.setIfInBounds_toArray, List.set_cons_succ, List.set_cons_zero])
                | (refine Agg.gStoreNew 33 (secC x) rfl rfl rfl rfl rfl rfl (by decide +kernel) h33 sec0_size h1 ?_; simp only [Act.put]))
              exact ⟨⟨j + 1, by omega, by go_num, by rw [HA.out, ← Bool.or_assoc, HM4.out, HR4.out]; rfl, by rw [HLL.out, ← Bool.and_assoc, HM9.out, HR9.out]; rfl, bel_alloc HJ.out _⟩, by simp [intOf]; omega⟩
            · go_wp2_with (first
                | (refine Agg.gIndexRow aiB (by decide +kernel) (secC x) hlt2 hel rfl rfl rfl rfl ?_; simp only [Act.put, List.setIfInBounds_toArray, List.set_cons_succ, List.set_cons_zero])
                | (refine Agg.allocRow 34 sec0.toArray rfl rfl (by kernel_rfl) ?_; simp only [Act.put, List.setIfInBounds_toArray, List.set_cons_succ, List.set_cons_zero])
                | (refine Agg.gStoreNew 33 (secC x) rfl rfl rfl rfl rfl rfl (by decide +kernel) h33 sec0_size h1 ?_; simp only [Act.put]))
              exact ⟨⟨j + 1, by omega, by go_num, by rw [HA.out, ← Bool.or_assoc, HM4.out, HR4.out]; rfl, by rw [HLL.out, ← Bool.and_assoc, HM9.out, HR9.out]; rfl, bel_alloc HJ.out _⟩, by simp [intOf]; omega⟩
            · go_wp2_with (first
                | (refine Agg.gIndexRow aiB (by decide +kernel) (secC x) hlt2 hel rfl rfl rfl rfl ?_; simp only [Act.put, List.setIfInBounds_toArray, List.set_cons_succ, List.set_cons_zero])
                | (refine Agg.allocRow 34 sec0.toArray rfl rfl (by kernel_rfl) ?_; simp only [Act.put, List.setIfInBounds_toArray, List.set_cons_succ, List.set_cons_zero])
                | (refine Agg.gStoreNew 33 (secC x) rfl rfl rfl rfl rfl rfl (by decide +kernel) h33 sec0_size h1 ?_; simp only [Act.put]))
              exact ⟨⟨j + 1, by omega, by go_num, by rw [HA.out, ← Bool.or_assoc, HM4.out, HR4.out]; rfl, by rw [HLL.out, ← Bool.and_assoc, HM9.out, HR9.out]; rfl, bel_alloc HJ.out _⟩, by simp [intOf]; omega⟩
            · go_wp2_with (first
                | (refine Agg.gIndexRow aiB (by decide +kernel) (secC x) hlt2 hel rfl rfl rfl rfl ?_; simp only [Act.put, List.setIfInBounds_toArray, List.set_cons_succ, List.set_cons_zero])
                | (refine Agg.allocRow 34 sec0.toArray rfl rfl (by kernel_rfl) ?_; simp only [Act.put, List.setIfInBounds_toArray, List.set_cons_succ, List.set_cons_zero])
                | (refine Agg.gStoreNew 33 (secC x) rfl rfl rfl rfl rfl rfl (by decide +kernel) h33 sec0_size h1 ?_; simp only [Act.put]))
              exact ⟨⟨j + 1, by omega, by go_num, by rw [HA.out, ← Bool.or_assoc, HM4.out, HR4.out]; rfl, by rw [HLL.out, ← Bool.and_assoc, HM9.out, HR9.out]; rfl, bel_alloc HJ.out _⟩, by simp [intOf]; omega⟩
          · obtain rfl : j = 4 := by omega
            have e4 : s.take 4 = s := List.take_of_length_le (by rw [HBO.out.1]; exact Nat.le_refl _)
            rw [e4, ← HS.out, HQ.out]
            have hc3 := HC0.out wr H6.out
            have HNF : Hid (q = true → n0 = sv) := by
              refine Lib.hid (fun h => ?_)
              rw [← HSV.out, h]; rfl
            have HNG : Hid (q = false → sv = 0) := by
              refine Lib.hid (fun h => ?_)
              rw [← HSV.out, h]; rfl
            clear h132
            cases q
            · have hsv := HNG.out rfl
              subst hsv
              go_wp2_with fail
              exact ⟨⟨k + 1, by omega, by go_num, rfl, HK.out⟩, by simp [intOf]; omega⟩
            · have hsv := HNF.out rfl
              subst hsv
              have hnb : ((n0 : Int) != (n0 : Int)) = false := by simp
              go_wp2_with fail
              exact ⟨⟨k + 1, by omega, by go_num, rfl, HK.out⟩, by simp [intOf]; omega⟩
    · obtain rfl : k = t.length := by omega
      rw [List.take_length, HMET.out]
      by_cases ht0 : t.length = 0
      · have hn0 := HNIL.out ht0
        subst hn0
        have htb : ¬ (t.length : Int) > 0 := by omega
        go_wp2_with fail
        go_ret
        exact ⟨rfl, HB.out⟩
      · have htb : (t.length : Int) > 0 := by omega
        go_wp2_with fail
        go_ret
        exact ⟨rfl, HB.out⟩
theorem PageStamps_walk (v : Value) (f0 : Nat) (w : World) (h0 : Agg.Good Try.prog w f0 51 [v]) :
    Calls Try.prog 9 #[v] w fun e w' => e = .returned (.bool true) ∧ Below w.heap.size w w' := by
  obtain ⟨l, q1, q2, _⟩ := good_blks h0
  exact stamps_any l q2 v w q1
end Go.Proofs.Ytoeofoihkkhpfaa
