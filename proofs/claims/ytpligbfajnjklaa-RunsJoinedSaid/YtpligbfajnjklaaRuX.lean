/-
  THE WALKS OF LAYER 7 (runs): Join.
-/
import Derived.Test.YtpligbfajnjklaaRuW
namespace Ru
/-- the runs of both: why there are none -/
def joinP (l m : List Rn) : Int := if risesB l = true ∧ risesB m = true then (if risingB (times l ++ times m) then 0 else 2) else 170
end Ru
namespace Go.Proofs.Ytpligbfajnjklaa
open Go.ChangeShapes Go.WideShapes Go.ChangeAt Go.RowKit Agg Pg Ru

set_option maxHeartbeats 4000000 in
set_option maxRecDepth 100000 in
theorem join_any (l m : List Rn) (v v2 : Value) (w : World) (hl : Rus w v l) (hw : ∀ r ∈ l, Rw r) (hm : Rus w v2 m) (hw2 : ∀ r ∈ m, Rw r) (q : Int) (hq : joinP l m = q) :
    Calls Try.prog 33 #[v, v2] w fun e w' => ∃ u, e = .returned (.tuple #[u, .int .i64 q]) ∧ OfR w.heap.size (times l ++ times m) q u w' ∧ Below w.heap.size w w' := by
  obtain ⟨x, cap, rfl, _⟩ := SlR.shape hl
  obtain ⟨y, cap2, rfl, _⟩ := SlR.shape hm
  have HL := Lib.hid hl
  have HM := Lib.hid hm
  have HW := Lib.hid hw
  have HW2 := Lib.hid hw2
  have hll := (Rus.len hl).2
  have hlm := (Rus.len hm).2
  obtain ⟨rb, hrb⟩ : ∃ b, risesB l = b := ⟨_, rfl⟩
  obtain ⟨rm, hrm⟩ : ∃ b, risesB m = b := ⟨_, rfl⟩
  have HRB := Lib.hid hrb
  have HRM := Lib.hid hrm
  unfold joinP at hq
  rw [hrb, hrm] at hq
  have HQ := Lib.hid hq
  obtain ⟨T, hT⟩ : ∃ T, times l ++ times m = T := ⟨_, rfl⟩
  rw [hT] at HQ ⊢
  have HTE := Lib.hid hT
  clear hl hw hrb hq hrm hm hw2 hT
  have HB := Lib.hid (Below.refl w.heap.size w)
  go_enter Try.func33, Try.ntmps33
  go_wp2_with fail
  refine (rises_R HL.out HW.out).mono ?_
  rintro e w1 ⟨rfl, hb⟩
  replace HB := Lib.hid (HB.out.trans (hb.mono HB.out.size))
  replace HL := Lib.hid (HL.out.keep hb)
  replace HM := Lib.hid (HM.out.keep hb)
  clear hb
  rw [HRB.out]
  cases rb
  · have h := HQ.out
    rw [if_neg (by simp)] at h
    subst h
    go_wp2_with fail
    go_ret2
    exact ⟨_, rfl, (OfR.no (by decide)).2 rfl, HB.out⟩
  · have h := HQ.out
    clear h
    go_wp2_with fail
    refine (rises_R HM.out HW2.out).mono ?_
    rintro e w2 ⟨rfl, hb⟩
    replace HB := Lib.hid (HB.out.trans (hb.mono HB.out.size))
    replace HL := Lib.hid (HL.out.keep hb)
    replace HM := Lib.hid (HM.out.keep hb)
    clear hb
    rw [HRM.out]
    cases rm
    · have h := HQ.out
      rw [if_neg (by simp)] at h
      subst h
      go_wp2_with fail
      go_ret2
      exact ⟨_, rfl, (OfR.no (by decide)).2 rfl, HB.out⟩
    · have h := HQ.out
      rw [if_pos (by simp)] at h
      have hji := joins_iff HRB.out HRM.out
      have el := rises_ends HRB.out
      have em := rises_ends HRM.out
      have h1l := ((rises_iff l).1 HRB.out).1
      have h2l := ((rises_iff l).1 HRB.out).2.1
      have h1m := ((rises_iff m).1 HRM.out).1
      have h2m := ((rises_iff m).1 HRM.out).2.1
      have hml := (times_len HRB.out).2
      have hmm := (times_len HRM.out).2
      have hmp : 0 ≤ many l ∧ 0 ≤ many m := by have := (times_len HRB.out).1; have := (times_len HRM.out).1; omega
      obtain ⟨hmp1, hmp2⟩ := hmp
      have HEL := Lib.hid el.1
      have HEM := Lib.hid em.1
      obtain ⟨b, o, cap', hve, _, _, _, _⟩ := SlR.pos HL.out (by decide) (by omega)
      simp only [Value.slice.injEq, true_and] at hve
      obtain ⟨rfl, rfl⟩ := hve
      obtain ⟨b2, o2, cap', hve, _, _, _, _⟩ := SlR.pos HM.out (by decide) (by omega)
      simp only [Value.slice.injEq, true_and] at hve
      obtain ⟨rfl, rfl⟩ := hve
      have hr0 := flat_at ruC 3 (by decide) HM.out (fun b hb => rfl) (k := 0) (by omega)
      have hrl := flat_at ruC 3 (by decide) HL.out (fun b hb => rfl) (k := l.length - 1) (by omega)
      have hs := (HEL.out _ (List.getElem_mem (show l.length - 1 < l.length by omega))).1
      obtain ⟨r0, h0⟩ : ∃ r, m[0]'(by omega) = r := ⟨_, rfl⟩
      obtain ⟨rl, h9⟩ : ∃ r, l[l.length - 1]'(by omega) = r := ⟨_, rfl⟩
      rw [h0] at hr0 hji
      rw [h9] at hrl hs hji
      clear h0 h9 el em
      obtain ⟨a0, s0, c0⟩ := r0
      obtain ⟨la, hla⟩ : ∃ z, last rl = z := ⟨_, rfl⟩
      rw [hla] at hji
      have HLA := Lib.hid hla
      have HSL := Lib.hid hs
      have HC0 : Hid (w2.cell? ⟨b2, o2 + (0 : Int).toNat * 3 + 0, none⟩ = some (.int .i64 a0)) := Lib.hid (hr0 0 _ rfl)
      have HRL : Hid (∀ i v, (ruC rl)[i]? = some v → w2.cell? ⟨b, o + ((l.length : Int) - 1).toNat * 3 + i, none⟩ = some v) := Lib.hid (by rw [show ((l.length : Int) - 1).toNat = ((l.length - 1 : Nat) : Int).toNat by omega]; exact hrl)
      obtain ⟨ml, hml2⟩ : ∃ z, many l = z := ⟨_, rfl⟩
      obtain ⟨mm, hmm2⟩ : ∃ z, many m = z := ⟨_, rfl⟩
      have HMA := Lib.hid (fun W hW => many_any l (.slice (some ⟨b, o, none⟩) l.length cap) W hW HRB.out)
      have HMB := Lib.hid (fun W hW => many_any m (.slice (some ⟨b2, o2, none⟩) m.length cap2) W hW HRM.out)
      rw [hml2] at hji hml HMA hmp1
      rw [hmm2] at hji hmm HMB hmp2
      simp only at hji
      have HJI := Lib.hid hji
      have HQ2 := Lib.hid h
      have HLT := Lib.hid (times_app l m)
      clear hml2 hmm2 hla hs hr0 hrl hji h HQ
      rw [HTE.out] at HJI HLT
      go_upto_region 3 with (fail)
      by_cases hlt : a0 ≤ la
      · have hno : risingB T = false := by
          cases h : risingB T with
          | false => rfl
          | true => have := HJI.out.1 h; omega
        have h := HQ2.out
        rw [hno, if_neg (by decide)] at h
        subst h
        refine Agg.chainR 21 (by kernel_rfl) (by kernel_rfl) ?_
        simp only [List.take_succ_cons, List.take_zero, List.drop_succ_cons, List.drop_zero]
        refine Agg.chMove rfl rfl rfl rfl ?_
        refine Agg.chIA ti24 (by omega) (by omega) rfl rfl rfl rfl rfl ?_
        refine Agg.chFA fo_fo_Run_0 rfl rfl rfl rfl ?_
        refine Agg.chLoad rfl rfl rfl rfl (by decide +kernel) HC0.out ?_
        refine Agg.chMove rfl rfl rfl rfl ?_
        refine Agg.chMove rfl rfl rfl rfl ?_
        refine Agg.chLen Try.underlying24 rfl rfl rfl rfl ?_
        refine Agg.chAr64 rfl rfl rfl rfl (by omega) (by omega) rfl rfl ?_
        refine Agg.chIA ti24 (by omega) (by omega) rfl rfl rfl rfl rfl ?_
        refine Agg.chRowAt 3 (ruC rl) rfl (by decide +kernel) rfl rfl rfl rfl HRL.out ?_
        refine Agg.chCall Try.func48 rfl (by kernel_rfl) rfl rfl rfl rfl (fun W hb => by have h := last_any rl HSL.out W; rw [HLA.out] at h; exact h) ?_
        refine Agg.chLe true (by simp; omega) rfl rfl rfl rfl rfl ?_
        refine Agg.chMove rfl rfl rfl rfl ?_
        refine Agg.chSkip rfl rfl ?_
        refine Agg.chSkip rfl rfl ?_
        refine Agg.chSkip rfl rfl ?_
        refine Agg.chSkip rfl rfl ?_
        refine Agg.chSkip rfl rfl ?_
        refine Agg.chSkip rfl rfl ?_
        refine Agg.chPick rfl rfl rfl rfl rfl ?_
        refine Agg.chAssign rfl rfl rfl rfl ?_
        refine Agg.chEnd ?_
        intro vs w3 hb _
        refine Agg.wpNil ?_
        simp only [List.reverse, List.reverseAux, Agg.fill, List.set_cons_succ, List.set_cons_zero]
        replace HB := Lib.hid (HB.out.trans (hb.mono HB.out.size))
        replace HL := Lib.hid (HL.out.keep hb)
        replace HM := Lib.hid (HM.out.keep hb)
        clear hb
        go_wp2_with fail
        go_ret2
        exact ⟨_, rfl, (OfR.no (by decide)).2 rfl, HB.out⟩
      · by_cases hbig : ml + mm > 256
        · have hno : risingB T = false := by
            cases h : risingB T with
            | false => rfl
            | true => have := HJI.out.1 h; omega
          have h := HQ2.out
          rw [hno, if_neg (by decide)] at h
          subst h
          refine Agg.chainR 21 (by kernel_rfl) (by kernel_rfl) ?_
          simp only [List.take_succ_cons, List.take_zero, List.drop_succ_cons, List.drop_zero]
          refine Agg.chMove rfl rfl rfl rfl ?_
          refine Agg.chIA ti24 (by omega) (by omega) rfl rfl rfl rfl rfl ?_
          refine Agg.chFA fo_fo_Run_0 rfl rfl rfl rfl ?_
          refine Agg.chLoad rfl rfl rfl rfl (by decide +kernel) HC0.out ?_
          refine Agg.chMove rfl rfl rfl rfl ?_
          refine Agg.chMove rfl rfl rfl rfl ?_
          refine Agg.chLen Try.underlying24 rfl rfl rfl rfl ?_
          refine Agg.chAr64 rfl rfl rfl rfl (by omega) (by omega) rfl rfl ?_
          refine Agg.chIA ti24 (by omega) (by omega) rfl rfl rfl rfl rfl ?_
          refine Agg.chRowAt 3 (ruC rl) rfl (by decide +kernel) rfl rfl rfl rfl HRL.out ?_
          refine Agg.chCall Try.func48 rfl (by kernel_rfl) rfl rfl rfl rfl (fun W hb => by have h := last_any rl HSL.out W; rw [HLA.out] at h; exact h) ?_
          refine Agg.chLe false (by simp; omega) rfl rfl rfl rfl rfl ?_
          refine Agg.chMove rfl rfl rfl rfl ?_
          refine Agg.chMove rfl rfl rfl rfl ?_
          refine Agg.chCall Try.func39 rfl (by kernel_rfl) rfl rfl rfl rfl (fun W hb => HMA.out W (SlR.keep HL.out hb)) ?_
          refine Agg.chMove rfl rfl rfl rfl ?_
          refine Agg.chCall Try.func39 rfl (by kernel_rfl) rfl rfl rfl rfl (fun W hb => HMB.out W (SlR.keep HM.out hb)) ?_
          refine Agg.chAr64 rfl rfl rfl rfl (by omega) (by omega) rfl rfl ?_
          refine Agg.chGt true (by simp; omega) rfl rfl rfl rfl rfl ?_
          refine Agg.chPick rfl rfl rfl rfl rfl ?_
          refine Agg.chAssign rfl rfl rfl rfl ?_
          refine Agg.chEnd ?_
          intro vs w4 hb _
          refine Agg.wpNil ?_
          simp only [List.reverse, List.reverseAux, Agg.fill, List.set_cons_succ, List.set_cons_zero]
          replace HB := Lib.hid (HB.out.trans (hb.mono HB.out.size))
          replace HL := Lib.hid (HL.out.keep hb)
          replace HM := Lib.hid (HM.out.keep hb)
          clear hb
          go_wp2_with fail
          go_ret2
          exact ⟨_, rfl, (OfR.no (by decide)).2 rfl, HB.out⟩
        · have hyes : risingB T = true := HJI.out.2 (by omega)
          have h := HQ2.out
          rw [hyes, if_pos rfl] at h
          subst h
          have HY := Lib.hid hyes
          clear HQ2 hyes
          refine Agg.chainR 21 (by kernel_rfl) (by kernel_rfl) ?_
          simp only [List.take_succ_cons, List.take_zero, List.drop_succ_cons, List.drop_zero]
          refine Agg.chMove rfl rfl rfl rfl ?_
          refine Agg.chIA ti24 (by omega) (by omega) rfl rfl rfl rfl rfl ?_
          refine Agg.chFA fo_fo_Run_0 rfl rfl rfl rfl ?_
          refine Agg.chLoad rfl rfl rfl rfl (by decide +kernel) HC0.out ?_
          refine Agg.chMove rfl rfl rfl rfl ?_
          refine Agg.chMove rfl rfl rfl rfl ?_
          refine Agg.chLen Try.underlying24 rfl rfl rfl rfl ?_
          refine Agg.chAr64 rfl rfl rfl rfl (by omega) (by omega) rfl rfl ?_
          refine Agg.chIA ti24 (by omega) (by omega) rfl rfl rfl rfl rfl ?_
          refine Agg.chRowAt 3 (ruC rl) rfl (by decide +kernel) rfl rfl rfl rfl HRL.out ?_
          refine Agg.chCall Try.func48 rfl (by kernel_rfl) rfl rfl rfl rfl (fun W hb => by have h := last_any rl HSL.out W; rw [HLA.out] at h; exact h) ?_
          refine Agg.chLe false (by simp; omega) rfl rfl rfl rfl rfl ?_
          refine Agg.chMove rfl rfl rfl rfl ?_
          refine Agg.chMove rfl rfl rfl rfl ?_
          refine Agg.chCall Try.func39 rfl (by kernel_rfl) rfl rfl rfl rfl (fun W hb => HMA.out W (SlR.keep HL.out hb)) ?_
          refine Agg.chMove rfl rfl rfl rfl ?_
          refine Agg.chCall Try.func39 rfl (by kernel_rfl) rfl rfl rfl rfl (fun W hb => HMB.out W (SlR.keep HM.out hb)) ?_
          refine Agg.chAr64 rfl rfl rfl rfl (by omega) (by omega) rfl rfl ?_
          refine Agg.chGt false (by simp; omega) rfl rfl rfl rfl rfl ?_
          refine Agg.chPick rfl rfl rfl rfl rfl ?_
          refine Agg.chAssign rfl rfl rfl rfl ?_
          refine Agg.chEnd ?_
          intro vs w5 hb _
          refine Agg.wpNil ?_
          simp only [List.reverse, List.reverseAux, Agg.fill, List.set_cons_succ, List.set_cons_zero]
          replace HB := Lib.hid (HB.out.trans (hb.mono HB.out.size))
          replace HL := Lib.hid (HL.out.keep hb)
          replace HM := Lib.hid (HM.out.keep hb)
          clear hb
          clear HMA HMB HRL HC0 HJI
          go_wp2_with fail
          refine Agg.calls_at fun w6 hw6 => ?_
          have hb : Below w5.heap.size w5 w6 := by rw [hw6.out]; repeat (first | exact Below.refl _ _ | refine Agg.bel_drew ?_ | refine Agg.bel_alloc ?_ _)
          replace HB := Lib.hid (HB.out.trans (hb.mono HB.out.size))
          replace HL := Lib.hid (HL.out.keep hb)
          replace HM := Lib.hid (HM.out.keep hb)
          clear hb
          have HK : Hid (Blk w6 w5.heap.size 24 [.slice (some ⟨b, o, none⟩) l.length cap, .slice (some ⟨b2, o2, none⟩) m.length cap2]) := by show Blk _ _ _ _; rw [hw6.out]; exact Blk.new w5 24 #[.slice (some ⟨b, o, none⟩) l.length cap, .slice (some ⟨b2, o2, none⟩) m.length cap2]
          clear hw6
          generalize w5.heap.size = gk at *
          refine (concat_any l m _ _ gk w6 HK.out HL.out HM.out h1l (by omega) h1m (by omega)).mono ?_
          rintro e w2 ⟨u, rfl, h1, h2⟩
          have hLM0 := HLT.out
          obtain ⟨LM, hLM⟩ : ∃ z, l ++ m = z := ⟨_, rfl⟩
          have hms : ∀ r ∈ LM, sized r = true := by rw [← hLM]; exact fun r hr => (List.mem_append.1 hr).elim (fun h => (HEL.out r h).1) (fun h => (HEM.out r h).1)
          rw [hLM] at h1 hLM0
          have HLM := Lib.hid hLM0
          have HMS := Lib.hid hms
          clear hLM hLM0 hms
          have HC := Lib.hid (own_rus h1)
          have HB2 := Lib.hid (HB.out.trans (h2.mono HB.out.size))
          obtain ⟨ux, uc, rfl, _, _⟩ := SlR.shape HC.out
          clear h1 h2
          go_wp2_with fail
          have hrs : risingB (times LM) = true := by rw [HLM.out]; exact HY.out
          refine (laidR_any _ _ w2 HC.out HMS.out hrs).mono ?_
          rintro e w3 ⟨u, rfl, h1, h2⟩
          rw [HLM.out] at h1
          have HO := Lib.hid (own_base h1 HB2.out.size)
          have HB3 := Lib.hid (HB2.out.trans (h2.mono HB2.out.size))
          obtain ⟨ux, uc, rfl, _, _⟩ := (ownSl h1).shape
          clear h1 h2
          go_wp2_with fail
          go_ret2
          exact ⟨_, rfl, OfR.yes.2 HO.out, HB3.out⟩
end Go.Proofs.Ytpligbfajnjklaa
