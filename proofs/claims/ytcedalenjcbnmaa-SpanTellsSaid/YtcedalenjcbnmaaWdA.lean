/-
  THE DOCUMENT's NUMBERS (layer 1): word, Value.
-/
import Derived.Test.YtcedalenjcbnmaaWd9
namespace Go.Proofs.Ytcedalenjcbnmaa
open Go.ChangeShapes Go.WideShapes Go.ChangeAt Go.RowKit Agg Wd

set_option maxHeartbeats 4000000 in
set_option maxRecDepth 100000 in
theorem word_any (n : Nat) (hn : n < 18446744073709551616) (v : Value) (w : World) (hv : NB w v n) :
    Calls Try.prog 77 #[v, .int .i64 0] w fun e w' => e = .returned (.int .u64 (n : Int)) ∧ Below w.heap.size w w' := by
  have hd64 : (digs n).length ≤ 64 := digs_len (by have e : (2 : Nat) ^ 64 = 18446744073709551616 := by decide
                                                   rw [e]; exact hn)
  have HV : Hid (SlR w v 1 (digs n).length (iD (digs n))) := Lib.hid hv
  have HLT := Lib.hid (digs_lt n)
  have HVAL := Lib.hid (val_digs n)
  have HN := Lib.hid hn
  clear hv hn
  generalize digs n = D at *
  obtain ⟨x, cap, rfl, hcap, hmax⟩ := HV.out.shape
  unfold maxLen at hmax
  have HLE : Hid (∀ k, k ≤ D.length → val (D.drop k) ≤ n) := by
    refine Lib.hid (fun k hk => ?_)
    have h := val_cut D k hk
    rw [HVAL.out] at h
    have : val (D.drop k) ≤ 2 ^ k * val (D.drop k) := Nat.le_mul_of_pos_left _ (Nat.pow_pos (by decide))
    omega
  have HB := Lib.hid (Below.refl w.heap.size w)
  go_enter Try.func77, Try.ntmps77
  go_wp2_with fail
  go_loopw [6, 5] (fun i a wr => ∃ k : Nat, k ≤ 64 ∧ i = .int .i64 ((k : Int) - 1) ∧ a = .int .u64 (val (D.drop k) : Int) ∧ Below w.heap.size w wr) (fun i _ _ => (intOf i + 1).toNat)
  case atStart => exact ⟨64, by omega, rfl, by rw [val_drop_none D 64 hd64]; rfl, HB.out⟩
  case round =>
    obtain ⟨k, hk, rfl, rfl, hb⟩ := hrel
    replace HB := Lib.hid hb
    have HV2 := Lib.hid (HV.out.keep hb)
    clear hb
    by_cases h0 : (k : Int) - 1 ≥ 0
    · obtain ⟨j, rfl⟩ : ∃ j, k = j + 1 := ⟨k - 1, by omega⟩
      have e1 : ((j + 1 : Nat) : Int) - 1 = (j : Int) := by omega
      rw [e1] at h0 ⊢
      by_cases hj : j < D.length
      · obtain ⟨b1, o1, _, hve, _, _, hcs, _⟩ := HV2.out.pos (by decide) (by omega)
        simp only [Value.slice.injEq, true_and] at hve
        obtain ⟨rfl, rfl⟩ := hve
        have hc1 : wr.cell? ⟨b1, o1 + j, none⟩ = some (.int .i64 (D[j] : Int)) := hcs j _ (iD_get D j hj)
        have HD := Lib.hid (val_drop D j hj)
        have hd2 := mem_lt HLT.out j hj
        have hle := HLE.out j (by omega)
        rw [HD.out] at hle
        have hlt := HN.out
        clear hcs
        generalize D[j] = d at *
        generalize val (D.drop (j + 1)) = X at *
        have hw2 : IntKind.u64.wrap ((X : Int) * 2) = (X : Int) * 2 := by rw [IntKind.wrap_u64]; omega
        rcases (by omega : d = 0 ∨ d = 1) with hd | hd
        · have hb1 : ((d : Int) == 1) = false := by simp [hd]
          have HX : Hid (((val (D.drop j) : Nat) : Int) = (X : Int) * 2) := Lib.hid (by rw [HD.out]; omega)
          clear hle hlt hd hd2
          go_wp2_with fail
          go_roundw
          case rel => exact ⟨j, by omega, rfl, by rw [HX.out], HB.out⟩
          case measure => simp only [intOf]; omega
        · have hb1 : ((d : Int) == 1) = true := by simp [hd]
          have hw3 : IntKind.u64.wrap ((X : Int) * 2 + 1) = (X : Int) * 2 + 1 := by rw [IntKind.wrap_u64]; omega
          have HX : Hid (((val (D.drop j) : Nat) : Int) = (X : Int) * 2 + 1) := Lib.hid (by rw [HD.out]; omega)
          clear hle hlt hd hd2
          go_wp2_with fail
          go_roundw
          case rel => exact ⟨j, by omega, rfl, by rw [HX.out], HB.out⟩
          case measure => simp only [intOf]; omega
      · have h1 := val_drop_none D (j + 1) (by omega)
        have h2 := Lib.hid (val_drop_none D j (by omega))
        rw [h1]
        clear h1
        go_wp2_with fail
        go_roundw
        case rel => exact ⟨j, by omega, rfl, by rw [h2.out]; rfl, HB.out⟩
        case measure => simp only [intOf]; omega
    · obtain rfl : k = 0 := by omega
      rw [List.drop_zero, HVAL.out]
      go_wp2_with fail
      go_ret
      exact ⟨rfl, HB.out⟩
set_option maxHeartbeats 4000000 in
set_option maxRecDepth 100000 in
theorem Value_any (z : Int) (hz : (digs z.natAbs).length ≤ 500) (v : Value) (w : World) (hv : NumV z v w) :
    Calls Try.prog 58 #[v] w fun e w' => e = .returned (.tuple #[.int .i64 (if fits64 z then z else 0), .bool (fits64 z)]) ∧ Below w.heap.size w w' := by
  have HFit := Lib.hid (fun W (h : NumV z v W) => Fits_any z hz v W h)
  obtain ⟨s1, rfl, hs1⟩ := hv
  obtain ⟨x1, c1, rfl, _, _⟩ := SlR.shape hs1
  have HS1 : Hid (NB w (.slice x1 (digs z.natAbs).length c1) z.natAbs) := Lib.hid hs1
  clear hs1
  have HLA := Lib.hid hz
  clear hz
  obtain ⟨f1, hf1⟩ : ∃ f1, decide (z < 0) = f1 := ⟨_, rfl⟩
  have HF1 := Lib.hid hf1
  have HNV : Hid (∀ W, NB W (.slice x1 (digs z.natAbs).length c1) z.natAbs → NumV z (.agg #[.bool f1, .slice x1 (digs z.natAbs).length c1]) W) := Lib.hid (fun W h => ⟨_, by rw [hf1], h⟩)
  rw [hf1] at HFit ⊢
  clear hf1
  obtain ⟨la, hla⟩ : ∃ la, la = (digs z.natAbs).length := ⟨_, rfl⟩
  rw [← hla] at HS1 HFit HNV ⊢
  clear hla
  obtain ⟨ok, hok⟩ : ∃ ok, fits64 z = ok := ⟨_, rfl⟩
  rw [hok] at HFit ⊢
  have HOK := Lib.hid hok
  clear hok
  have HB := Lib.hid (Below.refl w.heap.size w)
  go_enter Try.func58, Try.ntmps58
  go_wp2_with fail
  refine Agg.calls_at fun w1 hw1 => ?_
  have hb : Below w.heap.size w w1 := by rw [hw1.out]; repeat (first | exact Below.refl _ _ | refine Agg.bel_drew ?_ | refine Agg.bel_alloc ?_ _)
  replace HB := Lib.hid (HB.out.trans (hb.mono HB.out.size))
  replace HS1 := Lib.hid (HS1.out.keep hb)
  clear hb
  have H1 : Hid (Blk w1 w.heap.size 57 [.bool f1, .slice x1 la c1]) := by show Blk _ _ _ _; rw [hw1.out]; exact Blk.new w 57 #[.bool f1, .slice x1 la c1]
  clear hw1
  refine (HFit.out w1 (HNV.out _ HS1.out)).mono ?_
  rintro e w2 ⟨rfl, hb⟩
  replace HB := Lib.hid (HB.out.trans (hb.mono HB.out.size))
  replace HS1 := Lib.hid (HS1.out.keep hb)
  replace H1 := Lib.hid (H1.out.keep hb)
  clear hb
  cases ok
  · go_wp2_with fail
    go_ret2
    exact ⟨rfl, HB.out⟩
  · have xH1_0 := H1.out.cell 0
    have xH1_1 := H1.out.cell 1
    have lH1 := H1.out.lt
    simp only [List.getElem?_cons_zero, List.getElem?_cons_succ] at xH1_0 xH1_1
    have hb64 : -9223372036854775808 ≤ z ∧ z < 9223372036854775808 := by
      have := HOK.out
      unfold fits64 at this
      simpa using this
    have e64 : (2 : Nat) ^ 64 = 18446744073709551616 := by decide
    cases f1
    · have hzp : ¬ z < 0 := by have := HF1.out; simpa using this
      have hw : IntKind.i64.wrap ((z.natAbs : Nat) : Int) = z := by rw [IntKind.wrap_i64]; omega
      have hlt : z.natAbs < 18446744073709551616 := by omega
      have HW := Lib.hid hw
      have HLT := Lib.hid hlt
      clear hb64 e64 hzp hw hlt
      go_wp2_with fail
      clear xH1_0 xH1_1 lH1
      refine (word_any z.natAbs HLT.out _ w2 HS1.out).mono ?_
      rintro e w3 ⟨rfl, hb⟩
      replace HB := Lib.hid (HB.out.trans (hb.mono HB.out.size))
      replace HS1 := Lib.hid (HS1.out.keep hb)
      replace H1 := Lib.hid (H1.out.keep hb)
      clear hb
      have hw := HW.out
      go_wp2_with (refine gInt z rfl rfl rfl Try.underlying28 Try.underlying2 hw ?_; simp only [Act.put, List.setIfInBounds_toArray, List.set_cons_succ, List.set_cons_zero])
      go_ret2
      exact ⟨rfl, HB.out⟩
    · have hzn : z < 0 := by have := HF1.out; simpa using this
      have hw : IntKind.i64.wrap ((2 ^ 64 - z.natAbs : Nat) : Int) = z := by rw [IntKind.wrap_i64, e64]; omega
      have hlt : 2 ^ 64 - z.natAbs < 18446744073709551616 := by rw [e64]; omega
      have hle : z.natAbs ≤ 2 ^ 64 := by rw [e64]; omega
      have HW := Lib.hid hw
      have HLT := Lib.hid hlt
      have HLE := Lib.hid hle
      clear hb64 e64 hzn hw hlt hle
      go_wp2_with fail
      clear xH1_0 xH1_1 lH1
      refine (power_any 64 (by decide) w2).mono ?_
      rintro e w4 ⟨p, rfl, hp, hb⟩
      replace HB := Lib.hid (HB.out.trans (hb.mono HB.out.size))
      replace HS1 := Lib.hid (HS1.out.keep hb)
      replace H1 := Lib.hid (H1.out.keep hb)
      clear hb
      have HP := Lib.hid hp
      obtain ⟨xp, cp, rfl, _, _⟩ := SlR.shape hp
      clear hp
      go_wp2_with fail
      refine (minus_any (2 ^ 64) z.natAbs HLE.out (by rw [digs_pow]; simp) (by have := HLA.out; omega) _ _ w4 HP.out HS1.out).mono ?_
      rintro e w5 ⟨m, rfl, hm, hb⟩
      replace HB := Lib.hid (HB.out.trans (hb.mono HB.out.size))
      replace HS1 := Lib.hid (HS1.out.keep hb)
      replace HP := Lib.hid (HP.out.keep hb)
      clear hb
      obtain ⟨u, hu⟩ : ∃ u, u = 2 ^ 64 - z.natAbs := ⟨_, rfl⟩
      rw [← hu] at hm HW HLT
      clear hu
      have HM := Lib.hid hm
      obtain ⟨xm, cm, rfl, _, _⟩ := SlR.shape hm
      clear hm
      go_wp2_with fail
      refine (word_any u HLT.out _ w5 HM.out).mono ?_
      rintro e w6 ⟨rfl, hb⟩
      replace HB := Lib.hid (HB.out.trans (hb.mono HB.out.size))
      replace HM := Lib.hid (HM.out.keep hb)
      clear hb
      have hw := HW.out
      go_wp2_with (refine gInt z rfl rfl rfl Try.underlying28 Try.underlying2 hw ?_; simp only [Act.put, List.setIfInBounds_toArray, List.set_cons_succ, List.set_cons_zero])
      go_ret2
      exact ⟨rfl, HB.out⟩
end Go.Proofs.Ytcedalenjcbnmaa
