/-
  THE WALKS OF LAYER 7 (runs): the document's Of.
-/
import Derived.Test.YtpligbfajnjklaaOpen
import Derived.Test.YtpligbfajnjklaaGood2
namespace Ru
theorem drop_step (l : List Int) (j : Nat) (h : j + 1 < l.length) : l.drop (j + 1) = l[j + 1] :: l.drop (j + 2) := List.drop_eq_getElem_cons h
/-- the run from place i on, as far as place j -/
def runAt (l : List Int) (i j : Nat) (hi : i + 1 < l.length) : Rn := (l[i]'(by omega), l[i + 1] - l[i]'(by omega), (j : Int) - i + 1)
end Ru
namespace Go.Proofs.Ytpligbfajnjklaa
open Go.ChangeShapes Go.WideShapes Go.ChangeAt Go.RowKit Agg Pg Ru

theorem gdiff (l : List Int) (h : UpL l) (k : Nat) (hk : k < l.length) : 0 ≤ l[k] ∧ l[k] ≤ 281474976710656 := by
  have := h.1 l[k] (List.getElem_mem hk)
  unfold maxT at this; exact this
set_option maxHeartbeats 4000000 in
set_option maxRecDepth 100000 in
theorem rOf_any (l : List Int) (v : Value) (w : World) (hl : Tms w v l) (hup : UpL l) (h256 : l.length ≤ 256) :
    Calls Try.prog 15 #[v] w fun e w' => ∃ u, e = .returned u ∧ w'.ownsRow w.heap.size 31 3 u (ofR l).length ((ofR l).flatMap ruC) ∧ Below w.heap.size w w' := by
  obtain ⟨x, cap, rfl, _⟩ := SlR.shape hl
  have HL := Lib.hid hl
  have HL0 := HL
  have HUP := Lib.hid hup
  have hln : (l.length : Int) ≤ 256 := by omega
  clear hl hup h256
  have HB := Lib.hid (Below.refl w.heap.size w)
  go_enter Try.func15, Try.ntmps15
  go_wp2_with fail
  go_loopw [4, 3] (fun i out wr => ∃ (k : Nat) (D : List Rn), k ≤ l.length ∧ i = .int .i64 k ∧ D.length ≤ k ∧ D ++ ofR (l.drop k) = ofR l ∧ Below w.heap.size w wr ∧ wr.ownsRow w.heap.size 31 3 out D.length (D.flatMap ruC)) (fun i _ _ => l.length - (intOf i).toNat)
  case atStart => exact ⟨0, [], by omega, rfl, by simp, rfl, HB.out, World.ownsRow_nil _ _ _ _⟩
  case round =>
    obtain ⟨k, D, hk, rfl, hdk, hD, hb, ho⟩ := hrel
    replace HB := Lib.hid hb
    replace HL := Lib.hid (SlR.keep HL0.out hb)
    have HO := Lib.hid ho
    have HD := Lib.hid hD
    obtain ⟨vx, vc, rfl, _, _⟩ := (ownSl ho).shape
    clear hb ho hD
    obtain ⟨wA, hwA⟩ : ∃ x, x = wr := ⟨_, rfl⟩
    subst hwA
    by_cases hlt : k < l.length
    · obtain ⟨b, o, cap', hve, _, _, hcm, _⟩ := SlR.pos HL.out (by decide) (by omega)
      simp only [Value.slice.injEq, true_and] at hve
      obtain ⟨rfl, rfl⟩ := hve
      by_cases h1 : k + 1 = l.length
      · have hkb : ((k : Int) + 1 == (l.length : Int)) = true := by simp; omega
        have hdr : l.drop k = [l[k]] := by
          rw [List.drop_eq_getElem_cons hlt, List.drop_eq_nil_of_le (by omega)]
        have hD := HD.out
        rw [hdr] at hD
        have hcs := tms_at HL.out hlt
        rw [Int.toNat_natCast, Nat.mul_one] at hcs
        obtain ⟨t, ht⟩ : ∃ t, l[k]'hlt = t := ⟨_, rfl⟩
        rw [ht] at hD hcs
        have HD2 : Hid (D ++ [(t, 0, 1)] = ofR l) := Lib.hid hD
        have HC := Lib.hid hcs
        clear hD hdr h1 ht hcs hcm HD
        go_upto_region 5 with (fail)
        refine Agg.listR 7 (by kernel_rfl) ?_
        simp only [List.take_succ_cons, List.take_zero, List.drop_succ_cons, List.drop_zero]
        refine Agg.chMove rfl rfl rfl rfl ?_
        refine Agg.chMove rfl rfl rfl rfl ?_
        refine Agg.chMove rfl rfl rfl rfl ?_
        refine Agg.chIA ti22 (by omega) (by omega) rfl rfl rfl rfl rfl ?_
        refine Agg.chLoad rfl rfl rfl rfl (by decide +kernel) (by rw [Int.toNat_natCast, Nat.mul_one]; exact HC.out) ?_
        refine Agg.chBuild (v := .agg #[.int .i64 t, .int .i64 0, .int .i64 1]) rfl rfl rfl rfl (fun W => build_run3 t 0 1 W) ?_
        refine Agg.chBuildSlice (e := 31) (ruC (t, 0, 1)).toArray rfl rfl rfl rfl (fun W => lit_run (t, 0, 1) W) ?_
        refine Agg.chEnd ?_
        intro vs w21 hb hf
        simp only [List.reverse, List.reverseAux, Agg.Facts] at hf
        obtain ⟨⟨g9, hv9, hb9, hk9⟩, _⟩ := hf
        simp only [List.reverse, List.reverseAux, Agg.fill, List.set_cons_succ, List.set_cons_zero, hv9]
        clear hv9
        have hC3 := own_keep HO.out hb
        have hsl : SlR w21 (.slice (some ⟨g9, 0, none⟩) 1 1) 3 1 (ruC (t, 0, 1)) := NewSl.sl (b0 := wA.heap.size) (e := 31) ⟨g9, rfl, hb9, hk9⟩ rfl (by unfold maxLen; decide)
        have HB3 := Lib.hid (HB.out.trans (hb.mono HB.out.size))
        clear hb9 hk9 hb
        refine Agg.append ti24 (.tmp 15) (.tmp 21) rfl rfl w.heap.size (v := .slice vx D.length vc) rfl hC3 rfl hsl (by simp [ruC, Value.oneCell']) (by unfold maxLen; omega) (by omega) HB3.out.size ?_
        intro v' w4 hC4 hg4 _
        simp only [Act.put, List.setIfInBounds_toArray, List.set_cons_succ, List.set_cons_zero]
        have hB4 := HB3.out.trans (grown_below hg4 HB3.out.size (own_block hC3))
        clear hg4 hC3 hsl
        obtain ⟨v2x, v2c, rfl, _, _⟩ := (ownSl hC4).shape
        go_wp2_with fail
        go_ret
        refine ⟨_, rfl, ?_, hB4⟩
        rw [← HD2.out, List.length_append, List.flatMap_append]
        simpa using hC4
      · have hkb : ((k : Int) + 1 == (l.length : Int)) = false := by simp; omega
        have hi1 : k + 1 < l.length := by omega
        obtain ⟨a, ha⟩ : ∃ a, l[k]'hlt = a := ⟨_, rfl⟩
        obtain ⟨a2, ha2⟩ : ∃ a, l[k + 1]'hi1 = a := ⟨_, rfl⟩
        have hab := gdiff l HUP.out k hlt
        have hab2 := gdiff l HUP.out (k + 1) hi1
        rw [ha] at hab
        rw [ha2] at hab2
        have hgo : ofR (l.drop k) = go (a, a2 - a, 2) (l.drop (k + 2)) := by
          rw [List.drop_eq_getElem_cons hlt, ofR, drop_step l k hi1, ha, ha2, go, if_pos rfl]
        have HA := Lib.hid ha
        have HA2 := Lib.hid ha2
        have HGO := Lib.hid hgo
        clear ha ha2 hgo h1 hcm
        obtain ⟨ab1, ab2⟩ := hab
        obtain ⟨ab3, ab4⟩ := hab2
        go_upto_block 2 with (fail)
        obtain ⟨W1, hW1⟩ : ∃ x, x = wA := ⟨_, rfl⟩
        have HFR : Hid (From W1 wA) := Lib.hid (by rw [hW1]; exact Below.refl _ _)
        have HBA : Hid (Below w.heap.size w W1) := Lib.hid (by rw [hW1]; exact HB.out)
        have HL1 : Hid (Tms W1 (.slice (some ⟨b, o, none⟩) l.length cap) l) := Lib.hid (by rw [hW1]; exact HL.out)
        have HO1 : Hid (W1.ownsRow w.heap.size 31 3 (.slice vx D.length vc) D.length (D.flatMap ruC)) := Lib.hid (by rw [hW1]; exact HO.out)
        clear hW1
        go_cut [5] from 26 to 55 (fun v wx => ∃ j : Nat, k + 1 ≤ j ∧ j < l.length ∧ v = .int .i64 j ∧ ofR (l.drop k) = (a, a2 - a, (j : Int) - k + 1) :: ofR (l.drop (j + 1)) ∧ From W1 wx)
        case first =>
          go_wp2_with fail
          go_loopw [5] (fun i wr => ∃ j : Nat, k + 1 ≤ j ∧ j < l.length ∧ i = .int .i64 j ∧ l[j]? = some (a + (a2 - a) * ((j : Int) - k)) ∧ ofR (l.drop k) = go (a, a2 - a, (j : Int) - k + 1) (l.drop (j + 1)) ∧ From W1 wr) (fun i _ => l.length - (intOf i).toNat)
          case atStart =>
            refine ⟨k + 1, by omega, hi1, by go_num, ?_, ?_, HFR.out⟩
            · rw [List.getElem?_eq_getElem hi1, HA2.out]
              rw [show (((k + 1 : Nat) : Int) - k) = 1 by omega, Int.mul_one]
              congr 1; omega
            · rw [HGO.out, show (((k + 1 : Nat) : Int) - k + 1) = 2 by omega]
          case round =>
            obtain ⟨j, hj1, hj2, rfl, hlj, hgj, hfr⟩ := hrel
            have HLJ := Lib.hid hlj
            have HGJ := Lib.hid hgj
            clear HFR HL HO HB
            have HFR := Lib.hid hfr
            have HL := Lib.hid (SlR.keep HL1.out hfr)
            have HB : Hid (Below w.heap.size w wr) := Lib.hid (HBA.out.trans (hfr.mono HBA.out.size))
            clear hlj hgj hfr
            obtain ⟨wB, hwB⟩ : ∃ x, x = wr := ⟨_, rfl⟩
            subst hwB
            by_cases hjl : j + 1 < l.length
            · have hcj := tms_at HL.out hj2
              have hcj1 := tms_at HL.out hjl
              have hck := tms_at HL.out hlt
              have hck1 := tms_at HL.out hi1
              rw [HA.out] at hck
              rw [HA2.out] at hck1
              obtain ⟨u, hu⟩ : ∃ u, l[j]'hj2 = u := ⟨_, rfl⟩
              obtain ⟨u2, hu2⟩ : ∃ u, l[j + 1]'hjl = u := ⟨_, rfl⟩
              have hub := gdiff l HUP.out j hj2
              have hub2 := gdiff l HUP.out (j + 1) hjl
              rw [hu] at hcj hub
              rw [hu2] at hcj1 hub2
              obtain ⟨ub1, ub2⟩ := hub
              obtain ⟨ub3, ub4⟩ := hub2
              have hdj : l.drop (j + 1) = u2 :: l.drop (j + 2) := by rw [drop_step l j hjl, hu2]
              have hlu : u = a + (a2 - a) * ((j : Int) - k) := by have h := HLJ.out; rw [List.getElem?_eq_getElem hj2, hu] at h; simpa using h
              have HDJ := Lib.hid hdj
              have HLU := Lib.hid hlu
              have HU2 := Lib.hid hu2
              rw [show (((j + 1 : Nat) : Int)) = (j : Int) + 1 by omega] at hcj1
              rw [show (((k + 1 : Nat) : Int)) = (k : Int) + 1 by omega] at hck1
              have HC1 := Lib.hid hcj
              have HC2 := Lib.hid hcj1
              have HC3 := Lib.hid hck
              have HC4 := Lib.hid hck1
              clear hcj hcj1 hck hck1 hdj hlu hu hu2
              obtain ⟨q, hq⟩ : ∃ q : Bool, (u2 - u == a2 - a) = q := ⟨_, rfl⟩
              have HQ := Lib.hid hq
              clear hq
              go_upto_region 8 with (fail)
              refine Agg.chainR 28 (by kernel_rfl) (by kernel_rfl) ?_
              simp only [List.take_succ_cons, List.take_zero, List.drop_succ_cons, List.drop_zero]
              refine Agg.chMove rfl rfl rfl rfl ?_
              refine Agg.chAr64 rfl rfl rfl rfl (by omega) (by omega) rfl rfl ?_
              refine Agg.chMove rfl rfl rfl rfl ?_
              refine Agg.chLen Try.underlying22 rfl rfl rfl rfl ?_
              refine Agg.chLt true (by simp; omega) rfl rfl rfl rfl rfl ?_
              refine Agg.chMove rfl rfl rfl rfl ?_
              refine Agg.chMove rfl rfl rfl rfl ?_
              refine Agg.chMove rfl rfl rfl rfl ?_
              refine Agg.chAr64 rfl rfl rfl rfl (by omega) (by omega) rfl rfl ?_
              refine Agg.chIA ti22 (by omega) (by omega) rfl rfl rfl rfl rfl ?_
              refine Agg.chLoad rfl rfl rfl rfl (by decide +kernel) HC2.out ?_
              refine Agg.chMove rfl rfl rfl rfl ?_
              refine Agg.chMove rfl rfl rfl rfl ?_
              refine Agg.chIA ti22 (by omega) (by omega) rfl rfl rfl rfl rfl ?_
              refine Agg.chLoad rfl rfl rfl rfl (by decide +kernel) HC1.out ?_
              refine Agg.chAr64 rfl rfl rfl rfl (by omega) (by omega) rfl rfl ?_
              refine Agg.chMove rfl rfl rfl rfl ?_
              refine Agg.chMove rfl rfl rfl rfl ?_
              refine Agg.chAr64 rfl rfl rfl rfl (by omega) (by omega) rfl rfl ?_
              refine Agg.chIA ti22 (by omega) (by omega) rfl rfl rfl rfl rfl ?_
              refine Agg.chLoad rfl rfl rfl rfl (by decide +kernel) HC4.out ?_
              refine Agg.chMove rfl rfl rfl rfl ?_
              refine Agg.chMove rfl rfl rfl rfl ?_
              refine Agg.chIA ti22 (by omega) (by omega) rfl rfl rfl rfl rfl ?_
              refine Agg.chLoad rfl rfl rfl rfl (by decide +kernel) HC3.out ?_
              refine Agg.chAr64 rfl rfl rfl rfl (by omega) (by omega) rfl rfl ?_
              refine Agg.chEq q HQ.out rfl rfl rfl rfl rfl ?_
              refine Agg.chPick rfl rfl rfl rfl rfl ?_
              refine Agg.chEnd ?_
              intro vs w41 hb _
              refine Agg.wpNil ?_
              simp only [List.reverse, List.reverseAux, Agg.fill, List.set_cons_succ, List.set_cons_zero]
              replace HB := Lib.hid (HB.out.trans (hb.mono HB.out.size))
              replace HFR := Lib.hid (HFR.out.keep hb)
              clear hb
              cases q
              · go_wp2_with fail
                go_meet
                refine ⟨j, hj1, hj2, rfl, ?_, HFR.out⟩
                have hne : ¬ u2 - u = a2 - a := by have h := HQ.out; simpa using h
                rw [HGJ.out, HDJ.out, go, if_neg (by show ¬ (j : Int) - k + 1 = 1; omega), if_neg]
                · rfl
                · simp only [last]
                  rw [show (j : Int) - k + 1 - 1 = (j : Int) - k by omega, ← HLU.out]; exact hne
              · go_wp2_with fail
                have heq : u2 - u = a2 - a := by have h := HQ.out; simpa using h
                have hlu := HLU.out
                have hr1 : l[j + 1]? = some (a + (a2 - a) * (((j + 1 : Nat) : Int) - k)) := by
                  rw [List.getElem?_eq_getElem hjl, HU2.out, show (((j + 1 : Nat) : Int) - k) = ((j : Int) - k) + 1 by omega, Int.mul_add, Int.mul_one]
                  congr 1; omega
                have hr2 : ofR (l.drop k) = go (a, a2 - a, ((j + 1 : Nat) : Int) - k + 1) (l.drop (j + 1 + 1)) := by
                  rw [HGJ.out, HDJ.out, go, if_neg (by show ¬ (j : Int) - k + 1 = 1; omega), if_pos]
                  · rw [show ((j + 1 : Nat) : Int) - k + 1 = (j : Int) - k + 1 + 1 by omega]
                  · simp only [last]
                    rw [show (j : Int) - k + 1 - 1 = (j : Int) - k by omega, ← hlu]; exact heq
                exact ⟨⟨j + 1, by omega, hjl, by go_num, hr1, hr2, HFR.out⟩, by simp [intOf]; omega⟩
            · have hjb : ¬ (j : Int) + 1 < (l.length : Int) := by omega
              go_upto_region 8 with (fail)
              refine Agg.chainR 28 (by kernel_rfl) (by kernel_rfl) ?_
              simp only [List.take_succ_cons, List.take_zero, List.drop_succ_cons, List.drop_zero]
              refine Agg.chMove rfl rfl rfl rfl ?_
              refine Agg.chAr64 rfl rfl rfl rfl (by omega) (by omega) rfl rfl ?_
              refine Agg.chMove rfl rfl rfl rfl ?_
              refine Agg.chLen Try.underlying22 rfl rfl rfl rfl ?_
              refine Agg.chLt false (by simp; omega) rfl rfl rfl rfl rfl ?_
              refine Agg.chMove rfl rfl rfl rfl ?_
              refine Agg.chSkip rfl rfl ?_
              refine Agg.chSkip rfl rfl ?_
              refine Agg.chSkip rfl rfl ?_
              refine Agg.chSkip rfl rfl ?_
              refine Agg.chSkip rfl rfl ?_
              refine Agg.chSkip rfl rfl ?_
              refine Agg.chSkip rfl rfl ?_
              refine Agg.chSkip rfl rfl ?_
              refine Agg.chSkip rfl rfl ?_
              refine Agg.chSkip rfl rfl ?_
              refine Agg.chSkip rfl rfl ?_
              refine Agg.chSkip rfl rfl ?_
              refine Agg.chSkip rfl rfl ?_
              refine Agg.chSkip rfl rfl ?_
              refine Agg.chSkip rfl rfl ?_
              refine Agg.chSkip rfl rfl ?_
              refine Agg.chSkip rfl rfl ?_
              refine Agg.chSkip rfl rfl ?_
              refine Agg.chSkip rfl rfl ?_
              refine Agg.chSkip rfl rfl ?_
              refine Agg.chSkip rfl rfl ?_
              refine Agg.chPick rfl rfl rfl rfl rfl ?_
              refine Agg.chEnd ?_
              intro vs w42 hb _
              refine Agg.wpNil ?_
              simp only [List.reverse, List.reverseAux, Agg.fill, List.set_cons_succ, List.set_cons_zero]
              replace HB := Lib.hid (HB.out.trans (hb.mono HB.out.size))
              replace HFR := Lib.hid (HFR.out.keep hb)
              clear hb
              go_wp2_with fail
              go_meet
              refine ⟨j, hj1, hj2, rfl, ?_, HFR.out⟩
              rw [HGJ.out, List.drop_eq_nil_of_le (by omega)]; rfl
        case rest =>
          obtain ⟨j, hj1, hj2, rfl, hgj, hfr⟩ := hcut
          have HGJ := Lib.hid hgj
          clear HFR HL HO HB
          have HL := Lib.hid (SlR.keep HL1.out hfr)
          have HO := Lib.hid (own_keep HO1.out hfr)
          have HB : Hid (Below w.heap.size w wc) := Lib.hid (HBA.out.trans (hfr.mono HBA.out.size))
          clear hgj hfr
          have hck := tms_at HL.out hlt
          have hck1 := tms_at HL.out hi1
          rw [HA.out] at hck
          rw [HA2.out] at hck1
          rw [show (((k + 1 : Nat) : Int)) = (k : Int) + 1 by omega] at hck1
          have HC3 := Lib.hid hck
          have HC4 := Lib.hid hck1
          clear hck hck1
          go_upto_region 10 with (fail)
          refine Agg.chainR 21 (by kernel_rfl) (by kernel_rfl) ?_
          simp only [List.take_succ_cons, List.take_zero, List.drop_succ_cons, List.drop_zero]
          refine Agg.chMove rfl rfl rfl rfl ?_
          refine Agg.chMove rfl rfl rfl rfl ?_
          refine Agg.chMove rfl rfl rfl rfl ?_
          refine Agg.chIA ti22 (by omega) (by omega) rfl rfl rfl rfl rfl ?_
          refine Agg.chLoad rfl rfl rfl rfl (by decide +kernel) HC3.out ?_
          refine Agg.chMove rfl rfl rfl rfl ?_
          refine Agg.chMove rfl rfl rfl rfl ?_
          refine Agg.chAr64 rfl rfl rfl rfl (by omega) (by omega) rfl rfl ?_
          refine Agg.chIA ti22 (by omega) (by omega) rfl rfl rfl rfl rfl ?_
          refine Agg.chLoad rfl rfl rfl rfl (by decide +kernel) HC4.out ?_
          refine Agg.chMove rfl rfl rfl rfl ?_
          refine Agg.chMove rfl rfl rfl rfl ?_
          refine Agg.chIA ti22 (by omega) (by omega) rfl rfl rfl rfl rfl ?_
          refine Agg.chLoad rfl rfl rfl rfl (by decide +kernel) HC3.out ?_
          refine Agg.chAr64 rfl rfl rfl rfl (by omega) (by omega) rfl rfl ?_
          refine Agg.chMove rfl rfl rfl rfl ?_
          refine Agg.chMove rfl rfl rfl rfl ?_
          refine Agg.chAr64 rfl rfl rfl rfl (by omega) (by omega) rfl rfl ?_
          refine Agg.chAr64 rfl rfl rfl rfl (by omega) (by omega) rfl rfl ?_
          refine Agg.chBuild (v := .agg #[.int .i64 a, .int .i64 (a2 - a), .int .i64 ((j : Int) - k + 1)]) rfl rfl rfl rfl (fun W => build_run3 a (a2 - a) ((j : Int) - k + 1) W) ?_
          refine Agg.chBuildSlice (e := 31) (ruC (a, a2 - a, (j : Int) - k + 1)).toArray rfl rfl rfl rfl (fun W => lit_run (a, a2 - a, (j : Int) - k + 1) W) ?_
          refine Agg.chEnd ?_
          intro vs w61 hb hf
          simp only [List.reverse, List.reverseAux, Agg.Facts] at hf
          obtain ⟨⟨g9, hv9, hb9, hk9⟩, _⟩ := hf
          simp only [List.reverse, List.reverseAux, Agg.fill, List.set_cons_succ, List.set_cons_zero, hv9]
          clear hv9
          have hC3 := own_keep HO.out hb
          have hsl : SlR w61 (.slice (some ⟨g9, 0, none⟩) 1 1) 3 1 (ruC (a, a2 - a, (j : Int) - k + 1)) := NewSl.sl (b0 := wc.heap.size) (e := 31) ⟨g9, rfl, hb9, hk9⟩ rfl (by unfold maxLen; decide)
          have HB3 := Lib.hid (HB.out.trans (hb.mono HB.out.size))
          clear hb9 hk9 hb
          refine Agg.append ti24 (.tmp 56) (.tmp 76) rfl rfl w.heap.size (v := .slice vx D.length vc) rfl hC3 rfl hsl (by simp [ruC, Value.oneCell']) (by unfold maxLen; omega) (by omega) HB3.out.size ?_
          intro v' w4 hC4 hg4 _
          simp only [Act.put, List.setIfInBounds_toArray, List.set_cons_succ, List.set_cons_zero]
          have hB4 := HB3.out.trans (grown_below hg4 HB3.out.size (own_block hC3))
          clear hg4 hC3 hsl
          obtain ⟨v2x, v2c, rfl, _, _⟩ := (ownSl hC4).shape
          go_wp2_with fail
          refine Agg.noP ?_
          go_wp2_with fail
          have hown : w4.ownsRow w.heap.size 31 3 (.slice v2x (D.length + 1) v2c) (D ++ [((a, a2 - a, (j : Int) - k + 1) : Rn)]).length ((D ++ [((a, a2 - a, (j : Int) - k + 1) : Rn)]).flatMap ruC) := by
            rw [List.length_append, List.flatMap_append]
            simpa using hC4
          have hDD : (D ++ [((a, a2 - a, (j : Int) - k + 1) : Rn)]) ++ ofR (l.drop (j + 1)) = ofR l := by
            rw [← HD.out, HGJ.out, List.append_assoc]; rfl
          have hlen : (D ++ [((a, a2 - a, (j : Int) - k + 1) : Rn)]).length ≤ j + 1 := by rw [List.length_append, List.length_singleton]; omega
          exact ⟨⟨j + 1, D ++ [(a, a2 - a, (j : Int) - k + 1)], by omega, by go_num, hlen, hDD, hB4, hown⟩, by simp [intOf]; omega⟩
    · obtain rfl : k = l.length := by omega
      have hD := HD.out
      rw [List.drop_length] at hD
      have hD2 : D = ofR l := by simpa [ofR] using hD
      subst hD2
      go_wp2_with fail
      go_ret
      exact ⟨_, rfl, HO.out, HB.out⟩
end Go.Proofs.Ytpligbfajnjklaa
