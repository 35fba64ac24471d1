/-
  THE DOCUMENT's NUMBERS (layer 1): parts.
-/
import Derived.Test.YtchpkgneloiidaaPmWE
namespace Go.Proofs.Ytchpkgneloiidaa
open Go.ChangeShapes Go.WideShapes Go.ChangeAt Go.RowKit Agg Wd

theorem part_step {X d b : Nat} (hb : 0 < b) (hd : d < 2) :
    (2 * (X % b) + d < b → (d + 2 * X) % b = 2 * (X % b) + d ∧ (d + 2 * X) / b = 0 + 2 * (X / b)) ∧
    (¬ 2 * (X % b) + d < b → (d + 2 * X) % b = 2 * (X % b) + d - b ∧ (d + 2 * X) / b = 1 + 2 * (X / b)) := by
  have h1 := Nat.div_add_mod X b
  have h2 := Nat.mod_lt X hb
  generalize X % b = R at *
  generalize X / b = Q at *
  subst h1
  constructor
  · intro h
    have e : d + 2 * (b * Q + R) = (2 * R + d) + b * (2 * Q) := by rw [Nat.mul_add, Nat.mul_left_comm]; omega
    rw [e, Nat.add_mul_mod_self_left, Nat.add_mul_div_left _ _ hb, Nat.mod_eq_of_lt h, Nat.div_eq_of_lt h]
    exact ⟨rfl, rfl⟩
  · intro h
    have e : d + 2 * (b * Q + R) = (2 * R + d - b) + b * (2 * Q + 1) := by rw [Nat.mul_add, Nat.mul_left_comm, Nat.mul_add]; omega
    have hl : 2 * R + d - b < b := by omega
    rw [e, Nat.add_mul_mod_self_left, Nat.add_mul_div_left _ _ hb, Nat.mod_eq_of_lt hl, Nat.div_eq_of_lt hl]
    exact ⟨rfl, by omega⟩
set_option maxHeartbeats 4000000 in
set_option maxRecDepth 100000 in
theorem wparts_any (a b : Nat) (hb0 : 0 < b) (ha : (digs a).length ≤ 400) (hb : (digs b).length ≤ 400) (u v : Value) (w : World) (hu : NB w u a) (hv : NB w v b) :
    Calls Try.prog 51 #[u, v] w fun e w' => ∃ z y, e = .returned (.tuple #[z, y]) ∧ NB w' z (a / b) ∧ NB w' y (a % b) ∧ Below w.heap.size w w' := by
  have HAD := Lib.hid (digs_lt a)
  have HU : Hid (SlR w u 1 (digs a).length (iD (digs a))) := Lib.hid hu
  have HV : Hid (NB w v b) := Lib.hid hv
  have HVAL : Hid (val ((digs a).drop 0) = a) := Lib.hid (by rw [List.drop_zero, val_digs])
  have HBL := Lib.hid hb
  have HB0 := Lib.hid hb0
  have HAL := Lib.hid ha
  clear hb ha hb0
  obtain ⟨xv, cv, rfl, _, _⟩ := hv.shape
  clear hu hv
  obtain ⟨lb, hlb⟩ : ∃ lb, lb = (digs b).length := ⟨_, rfl⟩
  rw [← hlb] at HV ⊢
  clear hlb
  generalize digs a = A at *
  obtain ⟨y, cy, rfl, hcy, hmy⟩ := HU.out.shape
  unfold maxLen at hmy
  have HB := Lib.hid (Below.refl w.heap.size w)
  go_enter Try.func51, Try.ntmps51
  go_wp2_with fail
  go_loopw [8, 7, 6] (fun i rv qv wr => ∃ (k : Nat) (qs : List Nat), k ≤ A.length ∧ i = .int .i64 ((k : Int) - 1) ∧ NB wr rv (val (A.drop k) % b) ∧ SlR wr qv 1 qs.length (iD qs) ∧ qs.length = A.length - k ∧ (∀ d ∈ qs, d < 2) ∧ val qs = val (A.drop k) / b ∧ From w wr) (fun i _ _ _ => (intOf i + 1).toNat)
  case atStart =>
    refine ⟨A.length, [], Nat.le_refl _, rfl, ?_, SlR.nil _ _, by simp, by simp, ?_, Below.refl _ _⟩
    · rw [val_drop_none A _ (Nat.le_refl _), Nat.zero_mod]; exact NB.nil w
    · rw [val_drop_none A _ (Nat.le_refl _), Nat.zero_div]; rfl
  case round =>
    obtain ⟨k, qs, hk, rfl, hx, hq, hql, hqd, hqv, hb⟩ := hrel
    have hb : Below w.heap.size w wr := hb
    have HX := Lib.hid hx
    have HQ := Lib.hid hq
    have HQL := Lib.hid hql
    have HQD := Lib.hid hqd
    have HQV := Lib.hid hqv
    obtain ⟨xo, co, rfl, _, _⟩ := SlR.shape hx
    obtain ⟨xq, cq, rfl, _, _⟩ := SlR.shape hq
    clear hx hq hql hqd hqv
    obtain ⟨R, hR⟩ : ∃ R, R = val (A.drop k) % b := ⟨_, rfl⟩
    have HRL : Hid ((digs R).length ≤ 400) := Lib.hid (digs_le_len (by rw [hR]; exact Nat.le_of_lt (Nat.mod_lt _ HB0.out)) HBL.out)
    rw [← hR] at HX ⊢
    have HXE := Lib.hid hR
    clear hR
    have HDX := Lib.hid (digs_lt R)
    have HVX := Lib.hid (val_digs R)
    have HX2 : Hid (SlR wr (.slice xo (digs R).length co) 1 (digs R).length (iD (digs R))) := Lib.hid HX.out
    obtain ⟨D, hD⟩ : ∃ D, D = digs R := ⟨_, rfl⟩
    rw [← hD] at HX HX2 HRL HDX HVX ⊢
    have HDD := Lib.hid hD
    clear hD
    have HK : Hid (From w wr) := Lib.hid hb
    have hb := hb
    replace HB := Lib.hid (HB.out.trans (hb.mono HB.out.size))
    replace HU := Lib.hid (HU.out.keep hb)
    replace HV := Lib.hid (HV.out.keep hb)
    clear hb
    by_cases h0 : (k : Int) - 1 ≥ 0
    · obtain ⟨j, rfl⟩ : ∃ j, k = j + 1 := ⟨k - 1, by omega⟩
      have e1 : ((j + 1 : Nat) : Int) - 1 = (j : Int) := by omega
      rw [e1] at h0 ⊢
      have hj : j < A.length := by omega
      have HD := Lib.hid (val_drop A j hj)
      have hd2 := mem_lt HAD.out j hj
      obtain ⟨b1, o1, _, hve, _, _, hcs, _⟩ := HU.out.pos (by decide) (by omega)
      simp only [Value.slice.injEq, true_and] at hve
      obtain ⟨rfl, rfl⟩ := hve
      have hc1 : wr.cell? ⟨b1, o1 + j, none⟩ = some (.int .i64 (A[j] : Int)) := hcs j _ (iD_get A j hj)
      clear hcs
      generalize A[j] = d at *
      have hown := (bytes_new_int wr d)
      have hsl := SlR.keep HX2.out ((Below.refl _ wr).alloc (Nat.le_refl _) (.cells #[.int .i64 (d : Int)] 3))
      have hlx := HRL.out
      have HD2 := Lib.hid hd2
      clear hd2
      go_wp2_with (refine Agg.append2 tiN _ _ rfl rfl wr.heap.size rfl hown rfl hsl (iD_one D) (by unfold maxLen; omega) (by omega) (by simp) ?_; intro v3 w3 ho3 hg3 _; simp only [Act.put, List.setIfInBounds_toArray, List.set_cons_succ, List.set_cons_zero])
      have hb3 : Below wr.heap.size wr w3 := ((Below.refl _ wr).alloc (Nat.le_refl _) _).trans (grown_below hg3 (by simp) (own_block hown))
      have hz : SlR w3 v3 1 (d :: D).length (iD (d :: D)) := by
        have := ownSl ho3
        rw [Nat.add_comm] at this; exact this
      obtain ⟨x3, c3, rfl, _, _⟩ := SlR.shape hz
      clear hown hsl hg3 ho3 hc1
      have hb := hb3
      replace HB := Lib.hid (HB.out.trans (hb.mono HB.out.size))
      replace HU := Lib.hid (HU.out.keep hb)
      replace HV := Lib.hid (HV.out.keep hb)
      replace HX := Lib.hid (HX.out.keep hb)
      replace HX2 := Lib.hid (HX2.out.keep hb)
      replace HQ := Lib.hid (HQ.out.keep hb)
      replace HK := Lib.hid (HK.out.keep hb)
      clear hb
      have hl0 : ∀ c ∈ (d :: D), c < 2 := by
        intro c hc
        rcases List.mem_cons.1 hc with e | e
        · subst e; exact HD2.out
        · exact HDX.out c e
      refine (trim_any (d :: D) hl0 (by simp; omega) _ w3 hz).mono ?_
      rintro e w31 ⟨z, rfl, hz2, hb⟩
      replace HB := Lib.hid (HB.out.trans (hb.mono HB.out.size))
      replace HU := Lib.hid (HU.out.keep hb)
      replace HV := Lib.hid (HV.out.keep hb)
      replace HX := Lib.hid (HX.out.keep hb)
      replace HX2 := Lib.hid (HX2.out.keep hb)
      replace HQ := Lib.hid (HQ.out.keep hb)
      replace HK := Lib.hid (HK.out.keep hb)
      clear hb
      rw [show val (d :: D) = 2 * R + d by rw [val, HVX.out]; omega] at hz2
      obtain ⟨xz, cz, rfl, _, _⟩ := SlR.shape hz2
      have HZ := Lib.hid hz2
      clear hz hz2 hl0 hlx
      have HYL : Hid ((digs (2 * R + d)).length ≤ 402) := by
        have := HRL.out
        rw [HDD.out] at this
        exact Lib.hid (Nat.le_trans (digs_add_len (k := 401) (Nat.le_trans (by rw [Nat.two_mul]; exact digs_add_len this this) (by omega)) (Nat.le_trans (digs_len (k := 1) (by have := HD2.out; omega)) (by omega))) (by omega))
      obtain ⟨Y, hY⟩ : ∃ Y, Y = 2 * R + d := ⟨_, rfl⟩
      rw [← hY] at HZ HYL ⊢
      have HY := Lib.hid hY
      clear hY
      have HST := Lib.hid (part_step (X := val (A.drop (j + 1))) HB0.out HD2.out)
      obtain ⟨lz, hlz⟩ : ∃ n, n = (digs Y).length := ⟨_, rfl⟩
      rw [← hlz] at HZ ⊢
      clear hlz
      obtain ⟨r, hr⟩ : ∃ r, decide (Y < b) = r := ⟨_, rfl⟩
      have HRR := Lib.hid hr
      clear hr
      go_wp2_with fail
      refine (less_any Y b (by have := HYL.out; omega) (by have := HBL.out; omega) _ _ w31 HZ.out HV.out r HRR.out).mono ?_
      rintro e w32 ⟨rfl, hb⟩
      replace HB := Lib.hid (HB.out.trans (hb.mono HB.out.size))
      replace HU := Lib.hid (HU.out.keep hb)
      replace HV := Lib.hid (HV.out.keep hb)
      replace HQ := Lib.hid (HQ.out.keep hb)
      replace HK := Lib.hid (HK.out.keep hb)
      replace HZ := Lib.hid (HZ.out.keep hb)
      clear hb
      have hlq : Hid (qs.length ≤ 400) := by have h1 := HQL.out; have h2 := HAL.out; exact Lib.hid (by omega)
      cases r
      · have hlt : ¬ Y < b := by have := HRR.out; simpa using this
        have HE1 : Hid (val (A.drop j) % b = Y - b) := by
          show _ = _
          rw [HD.out, (HST.out.2 (by rw [← HXE.out, ← HY.out]; exact hlt)).1, ← HXE.out, ← HY.out]
        have HE2 : Hid (val (A.drop j) / b = 1 + 2 * val qs) := by
          show _ = _
          rw [HD.out, (HST.out.2 (by rw [← HXE.out, ← HY.out]; exact hlt)).2, ← HQV.out]
        have HBY : Hid (b ≤ Y) := Lib.hid (by omega)
        clear hlt
        go_wp2_with fail
        refine (minus_any Y b HBY.out (by have := HYL.out; omega) (by have := HBL.out; omega) _ _ w32 HZ.out HV.out).mono ?_
        rintro e w33 ⟨z2, rfl, hz3, hb⟩
        replace HB := Lib.hid (HB.out.trans (hb.mono HB.out.size))
        replace HU := Lib.hid (HU.out.keep hb)
        replace HV := Lib.hid (HV.out.keep hb)
        replace HQ := Lib.hid (HQ.out.keep hb)
        replace HK := Lib.hid (HK.out.keep hb)
        replace HZ := Lib.hid (HZ.out.keep hb)
        clear hb
        obtain ⟨xy, cyy, rfl, _, _⟩ := SlR.shape hz3
        rw [← HE1.out] at hz3 ⊢
        have HZ3 := Lib.hid hz3
        clear hz3
        have hown := (bytes_new_int w33 1)
        have hsl := SlR.keep HQ.out ((Below.refl _ w33).alloc (Nat.le_refl _) (.cells #[.int .i64 ((1 : Nat) : Int)] 3))
        have hlx := hlq.out
        obtain ⟨ly, hly⟩ : ∃ n, n = (digs (val (A.drop j) % b)).length := ⟨_, rfl⟩
        rw [← hly] at HZ3 ⊢
        clear hly
        go_wp2_with (refine Agg.append2 tiN _ _ rfl rfl w33.heap.size rfl hown rfl hsl (iD_one qs) (by unfold maxLen; omega) (by omega) (by simp) ?_; intro v4 w4 ho4 hg4 _; simp only [Act.put, List.setIfInBounds_toArray, List.set_cons_succ, List.set_cons_zero])
        have hb4 : Below w33.heap.size w33 w4 := ((Below.refl _ w33).alloc (Nat.le_refl _) _).trans (grown_below hg4 (by simp) (own_block hown))
        have hz4 : SlR w4 v4 1 (1 :: qs).length (iD (1 :: qs)) := by
          have := ownSl ho4
          rw [Nat.add_comm] at this; exact this
        clear hown hsl hg4 ho4
        have hb := hb4
        replace HB := Lib.hid (HB.out.trans (hb.mono HB.out.size))
        replace HU := Lib.hid (HU.out.keep hb)
        replace HV := Lib.hid (HV.out.keep hb)
        replace HQ := Lib.hid (HQ.out.keep hb)
        replace HK := Lib.hid (HK.out.keep hb)
        replace HZ3 := Lib.hid (HZ3.out.keep hb)
        clear hb
        go_roundw
        case rel =>
          refine ⟨j, 1 :: qs, by omega, rfl, HZ3.out, hz4, by have := HQL.out; simp; omega, ?_, by rw [HE2.out, val], HK.out⟩
          intro c hc
          rcases List.mem_cons.1 hc with e | e
          · subst e; decide
          · exact HQD.out c e
        case measure => simp only [intOf]; omega
      · have hlt : Y < b := by have := HRR.out; simpa using this
        have HE1 : Hid (val (A.drop j) % b = Y) := by
          show _ = _
          rw [HD.out, (HST.out.1 (by rw [← HXE.out, ← HY.out]; exact hlt)).1, ← HXE.out, ← HY.out]
        have HE2 : Hid (val (A.drop j) / b = 0 + 2 * val qs) := by
          show _ = _
          rw [HD.out, (HST.out.1 (by rw [← HXE.out, ← HY.out]; exact hlt)).2, ← HQV.out]
        clear hlt
        have hown := (bytes_new_int w32 0)
        have hsl := SlR.keep HQ.out ((Below.refl _ w32).alloc (Nat.le_refl _) (.cells #[.int .i64 ((0 : Nat) : Int)] 3))
        have hlx := hlq.out
        go_wp2_with (refine Agg.append2 tiN _ _ rfl rfl w32.heap.size rfl hown rfl hsl (iD_one qs) (by unfold maxLen; omega) (by omega) (by simp) ?_; intro v4 w4 ho4 hg4 _; simp only [Act.put, List.setIfInBounds_toArray, List.set_cons_succ, List.set_cons_zero])
        have hb4 : Below w32.heap.size w32 w4 := ((Below.refl _ w32).alloc (Nat.le_refl _) _).trans (grown_below hg4 (by simp) (own_block hown))
        have hz4 : SlR w4 v4 1 (0 :: qs).length (iD (0 :: qs)) := by
          have := ownSl ho4
          rw [Nat.add_comm] at this; exact this
        clear hown hsl hg4 ho4
        have hb := hb4
        replace HB := Lib.hid (HB.out.trans (hb.mono HB.out.size))
        replace HU := Lib.hid (HU.out.keep hb)
        replace HV := Lib.hid (HV.out.keep hb)
        replace HQ := Lib.hid (HQ.out.keep hb)
        replace HK := Lib.hid (HK.out.keep hb)
        replace HZ := Lib.hid (HZ.out.keep hb)
        clear hb
        go_roundw
        case rel =>
          refine ⟨j, 0 :: qs, by omega, rfl, by rw [HE1.out]; exact HZ.out, hz4, by have := HQL.out; simp; omega, ?_, by rw [HE2.out, val], HK.out⟩
          intro c hc
          rcases List.mem_cons.1 hc with e | e
          · subst e; decide
          · exact HQD.out c e
        case measure => simp only [intOf]; omega
    · obtain rfl : k = 0 := by omega
      have HE1 : Hid (R = a % b) := by show _ = _; rw [HXE.out, HVAL.out]
      have HE2 : Hid (val qs = a / b) := by show _ = _; rw [HQV.out, HVAL.out]
      have hlq : qs.length ≤ 1000 := by have h1 := HQL.out; have h2 := HAL.out; omega
      have HQ1 := Lib.hid hlq
      clear hlq
      go_wp2_with fail
      refine (trim_any qs HQD.out HQ1.out _ wr HQ.out).mono ?_
      rintro e w34 ⟨z, rfl, hz, hb⟩
      replace HB := Lib.hid (HB.out.trans (hb.mono HB.out.size))
      replace HU := Lib.hid (HU.out.keep hb)
      replace HV := Lib.hid (HV.out.keep hb)
      replace HX := Lib.hid (HX.out.keep hb)
      replace HX2 := Lib.hid (HX2.out.keep hb)
      replace HQ := Lib.hid (HQ.out.keep hb)
      replace HK := Lib.hid (HK.out.keep hb)
      clear hb
      rw [HE2.out] at hz
      have HZ := Lib.hid hz
      obtain ⟨xz, cz, rfl, _, _⟩ := SlR.shape hz
      clear hz
      go_wp2_with fail
      go_ret2
      exact ⟨_, _, rfl, HZ.out, by rw [← HE1.out]; exact HX.out, HB.out⟩
end Go.Proofs.Ytchpkgneloiidaa
