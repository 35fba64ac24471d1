/-
  THE WALK OF LAYER 8's STATEMENT PmcJoins; arguments.
-/
import Derived.Test.YtchpkgneloiidaaPm9
namespace Pm
theorem parts_facts {l : List Bd} (h : checkB l = true) {k : Nat} (h1 : 1 ≤ k) (h2 : k < l.length) : checkB (l.take k) = true ∧ checkB (l.drop k) = true ∧ (cut l).length ≤ (cut (l.take k)).length + (cut (l.drop k)).length ∧
    (cut (l.take k)).length ≤ (cut l).length ∧ (cut (l.drop k)).length ≤ (cut l).length ∧ (cut (l.take k)).length + (cut (l.drop k)).length ≤ (cut l).length + 1 := by
  obtain ⟨a1, a2, a3, a4⟩ := check_len h
  have c1 := check_part h 0 k (by rw [List.drop_zero, List.length_take]; omega)
  have c2 := check_part h k l.length (by rw [List.length_take, List.length_drop]; omega)
  rw [List.drop_zero] at c1
  rw [List.take_of_length_le (by rw [List.length_drop]; omega)] at c2
  have p1 := part_cut _ _ (Nat.le_refl _) (a4.take k)
  have p2 := part_cut _ _ (Nat.le_refl _) (a4.drop k)
  have p3 := part_cut _ _ (Nat.le_refl _) a4
  have q := p1.app p2
  rw [List.take_append_drop] at q
  have l1 := cut_least q a4
  obtain ⟨m, p, s1, s2, s3, s4, s5⟩ := p3.split (l.take k) (l.drop k) (List.take_append_drop k l).symm
  have l2 := cut_least s1 (a4.take k)
  have l3 := cut_least s2 (a4.drop k)
  exact ⟨c1, c2, l1, by omega, by omega, by omega⟩
end Pm
namespace Go.Proofs.Ytchpkgneloiidaa
open Go.ChangeShapes Go.WideShapes Go.ChangeAt Go.RowKit Agg Pg Pm
attribute [local go_sem] Oper.semAt_some

theorem good_bands {w : World} {fuel : Nat} {v : Value} (h : Agg.Good Try.prog w fuel 22 [v]) : ∃ l : List Bd, Bds w v l ∧ ∀ r ∈ l, Rw r := by
  obtain ⟨l, h1, h2, h3⟩ := good_sl (α := Bd) Try.underlying22 (sz := 3) (by kernel_rfl) bdC Rw (fun _ => rfl) (fun fu cs hg => by
    have hf := good_fits fu 5 36 [some .i64, some .i64, some .i64] cs (by kernel_rfl) hg
    obtain ⟨x, r, rfl, ⟨a, rfl, ha⟩, hf2⟩ := hf.cons
    obtain ⟨x2, r2, rfl, ⟨a2, rfl, ha2⟩, hf3⟩ := hf2.cons
    obtain ⟨x3, r3, rfl, ⟨a3, rfl, ha3⟩, hf4⟩ := hf3.cons
    rw [hf4.nil]
    have cv : ∀ {z : Int}, (Lit.int .i64 z).wf = true → I64 z := fun {z} hz => by
      simp [Lit.wf, IntKind.min, IntKind.max, IntKind.signed, IntKind.bits] at hz
      unfold I64; omega
    exact ⟨(a, a2, a3), rfl, cv ha, cv ha2, cv ha3⟩) h
  exact ⟨l, h1, h2⟩
theorem few_le (l : List Bd) : (few257 l).length ≤ 257 := by unfold few257; rw [List.length_take]; omega
theorem rem_lt {z m : Int} (hz : 0 ≤ z) (hm : 0 < m) : ∃ r : Nat, z.tmod m = (r : Int) ∧ (r : Int) < m := by
  have h1 := Int.emod_nonneg z (show m ≠ 0 by omega)
  have h2 := Int.emod_lt_of_pos z hm
  refine ⟨(z % m).toNat, ?_, by omega⟩
  rw [Int.tmod_eq_emod_of_nonneg hz]
  omega
set_option maxHeartbeats 4000000 in
set_option maxRecDepth 100000 in
theorem joins_walk (l : List Bd) (v : Value) (z : Int) (w : World) (hz : I64 z) (hl : Bds w v l) :
    Calls Try.prog 6 #[v, .int .i64 z] w fun e w' => e = .returned (.bool true) ∧ Below w.heap.size w w' := by
  obtain ⟨x, cap, rfl, _⟩ := SlR.shape hl
  have HL := Lib.hid hl
  obtain ⟨hz1, hz2⟩ := hz
  clear hl
  have HB := Lib.hid (Below.refl w.heap.size w)
  go_enter Try.func6, Try.ntmps6
  go_wp2_with fail
  refine (wakes_any w).mono ?_
  rintro e w1 ⟨rfl, hb⟩
  replace HB := Lib.hid (HB.out.trans (hb.mono HB.out.size))
  replace HL := Lib.hid (HL.out.keep hb)
  clear hb
  go_wp2_with fail
  refine (few_any l _ w1 HL.out).mono ?_
  rintro e w2 ⟨u, rfl, hu, hb⟩
  replace HB := Lib.hid (HB.out.trans (hb.mono HB.out.size))
  replace HL := Lib.hid (HL.out.keep hb)
  clear hb
  have HU : Hid (Bds w2 u (few257 l)) := Lib.hid (own_bds hu)
  have hfl := few_le l
  clear hu HL
  generalize few257 l = L at *
  obtain ⟨ux, uc, rfl, huc, _⟩ := SlR.shape HU.out
  obtain ⟨q, hq⟩ : ∃ q, checkB L = q := ⟨_, rfl⟩
  have HQ := Lib.hid hq
  clear hq
  go_wp2_with fail
  refine (chkB_any L _ w2 HU.out q HQ.out).mono ?_
  rintro e w3 ⟨rfl, hb⟩
  replace HB := Lib.hid (HB.out.trans (hb.mono HB.out.size))
  replace HU := Lib.hid (HU.out.keep hb)
  clear hb
  cases q
  · go_wp2_with fail
    go_ret
    exact ⟨rfl, HB.out⟩
  · have hq0 := HQ.out
    clear hq0
    by_cases h2 : (L.length : Int) < 2
    · go_wp2_with fail
      go_ret
      exact ⟨rfl, HB.out⟩
    · have h2b : ¬ (L.length : Int) < 2 := h2
      obtain ⟨r, hr, hr2⟩ := rem_lt (z := max z 0) (m := (L.length : Int) - 1) (by omega) (by omega)
      have HRR := Lib.hid hr
      have hmz : 0 ≤ max z 0 ∧ max z 0 ≤ 9223372036854775807 := by omega
      clear hr
      go_upto_region 6 with (fail)
      refine Agg.listR 8 (by kernel_rfl) ?_
      simp only [List.take_succ_cons, List.take_zero, List.drop_succ_cons, List.drop_zero]
      refine Agg.chMove rfl rfl rfl rfl ?_
      refine Agg.chMax2 (max z 0) rfl rfl rfl rfl rfl rfl ?_
      refine Agg.chMove rfl rfl rfl rfl ?_
      refine Agg.chLen Try.underlying22 rfl rfl rfl rfl ?_
      refine Agg.chAr64 rfl rfl rfl rfl (by omega) (by omega) rfl rfl ?_
      refine Agg.chRem (r : Int) rfl rfl rfl (by omega) HRR.out rfl rfl ?_
      refine Agg.chAr64 rfl rfl rfl rfl (by omega) (by omega) rfl rfl ?_
      refine Agg.chAssign rfl rfl rfl rfl ?_
      refine Agg.chEnd ?_
      intro vs w4 hb _
      show Exit.then _ _ Exit.normal _ _
      simp only [List.reverse, List.reverseAux, Agg.fill, List.set_cons_succ, List.set_cons_zero]
      replace HB := Lib.hid (HB.out.trans (hb.mono HB.out.size))
      replace HU := Lib.hid (HU.out.keep hb)
      clear hb
      obtain ⟨k, hk⟩ : ∃ k : Nat, (1 : Int) + r = (k : Int) := ⟨r + 1, by omega⟩
      rw [hk]
      have hk1 : 1 ≤ k := by omega
      have hk2 : k < L.length := by omega
      clear hk hr2 HRR hmz
      obtain ⟨f1, f2, f3, f4, f5, f6⟩ := parts_facts HQ.out hk1 hk2
      obtain ⟨b, o, cap', hve, _, _, _, _⟩ := SlR.pos HU.out (by decide) (by omega)
      simp only [Value.slice.injEq, true_and] at hve
      obtain ⟨rfl, rfl⟩ := hve
      have HA := Lib.hid (by have h := bds_part HU.out (i := 0) (j := k) (by omega) uc (by omega) (by omega); rw [List.drop_zero, Nat.zero_mul, Nat.add_zero] at h; exact h : Bds w4 (.slice (some ⟨b, o, none⟩) k uc) (L.take k))
      have HBB := Lib.hid (by have h := bds_part HU.out (i := k) (j := L.length - k) (by omega) (uc - k) (by omega) (by omega); rw [List.take_of_length_le (by rw [List.length_drop]; omega)] at h; exact h : Bds w4 (.slice (some ⟨b, o + k * 3, none⟩) (L.length - k) (uc - k)) (L.drop k))
      have HF1 := Lib.hid f1
      have HF2 := Lib.hid f2
      clear f1 f2
      have hcb := cut_len (check_len HQ.out).2.2.2
      generalize hA : L.take k = A at *
      generalize hBe : L.drop k = B at *
      clear hA hBe
      go_wp2_with fail
      refine (cut_any L _ w4 HU.out true HQ.out).mono ?_
      rintro e w5 ⟨c1, rfl, hc1, hb⟩
      replace HB := Lib.hid (HB.out.trans (hb.mono HB.out.size))
      replace HU := Lib.hid (HU.out.keep hb)
      replace HA := Lib.hid (HA.out.keep hb)
      replace HBB := Lib.hid (HBB.out.keep hb)
      clear hb
      obtain ⟨c1x, c1c, rfl, _, _⟩ := (ownSl (CutV.yes.1 hc1)).shape
      clear hc1
      have hkc : k < uc := by omega
      go_wp2_with fail
      refine (cut_any A _ w5 HA.out true HF1.out).mono ?_
      rintro e w6 ⟨c2, rfl, hc2, hb⟩
      replace HB := Lib.hid (HB.out.trans (hb.mono HB.out.size))
      replace HU := Lib.hid (HU.out.keep hb)
      replace HA := Lib.hid (HA.out.keep hb)
      replace HBB := Lib.hid (HBB.out.keep hb)
      clear hb
      obtain ⟨c2x, c2c, rfl, _, _⟩ := (ownSl (CutV.yes.1 hc2)).shape
      clear hc2
      go_wp2_with fail
      refine (cut_any B _ w6 HBB.out true HF2.out).mono ?_
      rintro e w7 ⟨c3, rfl, hc3, hb⟩
      replace HB := Lib.hid (HB.out.trans (hb.mono HB.out.size))
      replace HU := Lib.hid (HU.out.keep hb)
      replace HA := Lib.hid (HA.out.keep hb)
      replace HBB := Lib.hid (HBB.out.keep hb)
      clear hb
      obtain ⟨c3x, c3c, rfl, _, _⟩ := (ownSl (CutV.yes.1 hc3)).shape
      clear hc3
      clear HU HA HBB HF1 HF2 HQ
      obtain ⟨n1, hn1⟩ : ∃ n, (cut L).length = n := ⟨_, rfl⟩
      obtain ⟨n2, hn2⟩ : ∃ n, (cut A).length = n := ⟨_, rfl⟩
      obtain ⟨n3, hn3⟩ : ∃ n, (cut B).length = n := ⟨_, rfl⟩
      rw [hn1] at f3 f4 f5 f6 hcb ⊢
      rw [hn2] at f3 f4 f6 ⊢
      rw [hn3] at f3 f5 f6 ⊢
      clear hn1 hn2 hn3
      have e1 : (n1 : Int) ≤ (n2 : Int) + n3 := by omega
      have e2 : (n1 : Int) ≥ n2 := by omega
      have e3 : (n1 : Int) ≥ n3 := by omega
      have e4 : (n1 : Int) + 1 ≥ (n2 : Int) + n3 := by omega
      go_wp2_with fail
      go_ret
      exact ⟨rfl, HB.out⟩
theorem PmcJoins_walk (v : Value) (f : Nat) (z : Int) (w : World) (h : Agg.Good Try.prog w f 22 [v]) (hz : (Lit.int .i64 z).wf = true) :
    Calls Try.prog 6 #[v, .int .i64 z] w fun e w' => e = .returned (.bool true) ∧ Below w.heap.size w w' := by
  obtain ⟨l, h3, h4⟩ := good_bands h
  have cv : ∀ {z : Int}, (Lit.int .i64 z).wf = true → I64 z := fun {z} hz => by
    simp [Lit.wf, IntKind.min, IntKind.max, IntKind.signed, IntKind.bits] at hz
    unfold I64; omega
  exact joins_walk l v z w (cv hz) h3
end Go.Proofs.Ytchpkgneloiidaa
