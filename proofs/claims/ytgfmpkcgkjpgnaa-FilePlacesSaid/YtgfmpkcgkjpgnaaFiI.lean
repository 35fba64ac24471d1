/-
  FILES: Put.
-/
import Derived.Test.YtgfmpkcgkjpgnaaFiH
namespace Go.Proofs.Ytgfmpkcgkjpgnaa
open Go.ChangeShapes Go.WideShapes Go.ChangeAt Go.RowKit Agg Pg Dv Fi
attribute [local go_sem] Oper.semAt_some

theorem blksF_bok (kind : Int) (n : Nat) (B : List UInt8) (A : List Int) : ∀ i, n + i + A.length < 18446744073709551616 → ∀ x ∈ blksF kind n B i A, BOk x.2 := by
  induction A with
  | nil => intro i _ x hx; simp [blksF] at hx
  | cons a l ih =>
    intro i hn x hx
    rw [List.length_cons] at hn
    rw [blksF, List.mem_cons] at hx
    rcases hx with rfl | hx
    · exact lay_bok _ _ _ (partB_len B i) (by omega)
    · exact ih (i + 1) (by omega) x hx
/-- what Put's closure puts -/
def putR (d : Dev) (A : List Int) (kind : Int) (n : Nat) (B : List UInt8) : Int × Dev := if ¬ stampP n then (2, dev0) else if 4611686018427387904 - n < A.length - 1 then (8, dev0) else putsP d (blksF kind n B 0 A)
theorem putR_good {d : Dev} (h : DGood d) (A : List Int) (kind : Int) (n : Nat) (B : List UInt8) (ha : A.length ≤ 1000) : DGood (putR d A kind n B).2 := by
  unfold putR
  split
  · exact dev0_good
  · rename_i hs
    split
    · exact dev0_good
    · refine putsP_good (blksF_bok _ _ _ _ 0 ?_) h
      have := (Classical.not_not.1 hs).2
      omega
theorem mayB_facts {A : List Int} {kind bytes : Int} {np : Nat} (h : mayB A kind bytes np = true) : 1 ≤ bytes ∧ (A.length : Int) = needN bytes ∧ (kind = 3 ∨ kind = 4) ∧ okA np [] A = true := by
  unfold mayB at h
  simp only [Bool.and_eq_true, Bool.or_eq_true, decide_eq_true_eq] at h
  exact ⟨h.1.1.1, h.1.1.2, h.1.2, h.2⟩
theorem fPut_ask (d : Dev) (A : List Int) (kind : Int) (n : Nat) (B : List UInt8) : fPut d A kind n B = if (askP d (mayB A kind B.length d.pages.length) (putR d A kind n B)).1 = 10 ∧ d.off = true then goesP d (flushP d) else askP d (mayB A kind B.length d.pages.length) (putR d A kind n B) := by
  unfold fPut askP putR
  cases hr : rightD d
  · simp
  · cases ho : d.off
    · simp
    · simp [goesP, hr, ho]
/-- a block of one's own is written at last -/
theorem grown_new {w w1 w2 w3 : World} {x : Option Nat} (hb : Below w.heap.size w w1) (h1 : w1.grownBy w2 x) (h2 : w2.grownBy w3 (some w.heap.size)) : w.grownBy w3 x :=
  ⟨h2.os.trans (h1.os.trans hb.os), h2.tape.trans (h1.tape.trans hb.tape), h2.output.trans (h1.output.trans hb.output), Nat.le_trans hb.size (Nat.le_trans h1.size h2.size), fun k hk hne => (h2.block k (Nat.lt_of_lt_of_le hk (Nat.le_trans hb.size h1.size)) (by simp; omega)).trans ((h1.block k (Nat.lt_of_lt_of_le hk hb.size) hne).trans (hb.block k hk))⟩
set_option maxHeartbeats 4000000 in
set_option maxRecDepth 100000 in
theorem fputC_any (d : Dev) (A : List Int) (B : List UInt8) (kind : Int) (n : Nat) (ax bx : Option Addr) (ac cap bs ba bf bb bl kl : Nat) (w0 w : World) (hd : DGood d) (hc : d.cache.length ≤ 10000)
    (hbs : Blk w bs 42 [.int .u64 (n : Int)]) (hba : Blk w ba 22 [.slice ax A.length ac]) (hbf : Blk w bf 93 [.func (.func 44) #[.pointer (some ⟨kl, 0, none⟩)] #[]]) (hbb : Blk w bb 39 [.slice bx B.length cap]) (hbl : Blk w bl 90 [.pointer (some ⟨kl, 0, none⟩)])
    (hk : LaidR w kl d ax A.length ac kind) (hA : Ints w0 (.slice ax A.length ac) A) (hB : Bytes w0 (.slice bx B.length cap) B) (h0 : Below w0.heap.size w0 w) (hkl : w0.heap.size ≤ kl) (hlk : bl ≠ kl) (hal : A.length ≤ 1000) (hbn : B.length ≤ 1000000)
    (hn : n < 18446744073709551616) (hm : mayB A kind B.length d.pages.length = true) :
    Calls Try.prog 46 #[.pointer (some ⟨bs, 0, none⟩), .pointer (some ⟨ba, 0, none⟩), .pointer (some ⟨bf, 0, none⟩), .pointer (some ⟨bb, 0, none⟩), .pointer (some ⟨bl, 0, none⟩)] w fun e w' => ∃ v, e = .returned (.tuple #[v, .int .i64 (putR d A kind n B).1]) ∧ DevR w' v (putR d A kind n B).2 ∧ w.grownBy w' (some kl) := by
  obtain ⟨hm1, hm2, hm3, hm4⟩ := mayB_facts hm
  obtain ⟨b, o, cap', hve, hcp1, hcp2, _, _⟩ := SlR.pos hB (by decide) (by omega)
  simp only [Value.slice.injEq, true_and] at hve
  obtain ⟨rfl, rfl⟩ := hve
  have ha1 : 1 ≤ A.length := by unfold needN at hm2; split at hm2 <;> omega
  have HOK := Lib.hid (putR_good hd A kind n B hal).ok
  obtain ⟨g, hg⟩ : ∃ g, putR d A kind n B = g := ⟨_, rfl⟩
  rw [hg] at HOK ⊢
  have HG := Lib.hid hg
  have HDG := Lib.hid hd
  have HS := Lib.hid hbs
  have HA1 := Lib.hid hba
  have HF := Lib.hid hbf
  have HBB := Lib.hid hbb
  have HL := Lib.hid hbl
  have HK := Lib.hid hk
  have HA0 := Lib.hid hA
  have HB0 := Lib.hid hB
  have HW0 := Lib.hid h0
  have HN2 := Lib.hid hm2
  have hkw : kl < w.heap.size := by obtain ⟨_, _, _, _, h, _⟩ := hk; exact h.lt
  clear hg hd hbs hba hbf hbb hbl hk hA hB h0 hm hm2 hm4
  have HB := Lib.hid (Below.refl w.heap.size w)
  go_enter Try.func46, Try.ntmps46
  go_upto_region 1 with (fail)
  refine Agg.wp_at fun w1 hw1 => ?_
  have hb : Below w.heap.size w w1 := by rw [hw1.out]; repeat (first | exact Below.refl _ _ | refine Agg.bel_drew ?_ | refine Agg.bel_alloc ?_ _)
  replace HB := Lib.hid (HB.out.trans (hb.mono HB.out.size))
  clear hb
  have H1 : Hid (Blk w1 w.heap.size 46 [.slice none 0 0, .slice none 0 0, .int .i64 0, .bool false]) := by show Blk _ _ _ _; rw [hw1.out]; exact Blk.new w 46 #[.slice none 0 0, .slice none 0 0, .int .i64 0, .bool false]
  clear hw1
  replace HS := Lib.hid (HS.out.keep HB.out)
  replace HA1 := Lib.hid (HA1.out.keep HB.out)
  replace HF := Lib.hid (HF.out.keep HB.out)
  replace HBB := Lib.hid (HBB.out.keep HB.out)
  replace HL := Lib.hid (HL.out.keep HB.out)
  by_cases hst : stampP n
  · obtain ⟨hs1, hs2⟩ := hst
    have hg := HG.out
    rw [putR, if_neg (fun h => h ⟨hs1, hs2⟩)] at hg
    have HG2 := Lib.hid hg
    clear hg HG
    have xHS_0 := HS.out.cell 0
    have lHS := HS.out.lt
    simp only [List.getElem?_cons_zero] at xHS_0
    go_upto_region 3 with (fail)
    clear xHS_0 lHS
    by_cases hfull : 4611686018427387904 - n < A.length - 1
    · have hg := HG2.out
      rw [if_pos hfull] at hg
      subst hg
      have HW1 : Hid (IntKind.u64.wrap ((A.length : Int) - 1) = ((A.length - 1 : Nat) : Int)) := Lib.hid (by rw [u64_small (by omega) (by omega)]; omega)
      have HW2 : Hid (some (IntKind.u64.wrap ((4611686018427387904 : Int) - (n : Int))) = some ((4611686018427387904 - n : Nat) : Int)) := Lib.hid (by rw [u64_small (by omega) (by omega)]; congr 1; omega)
      refine Agg.listR 7 (by kernel_rfl) ?_
      simp only [List.take_succ_cons, List.take_zero, List.drop_succ_cons, List.drop_zero]
      refine Agg.chLoadB HA1.out (by decide +kernel) rfl rfl (by rfl) rfl rfl ?_
      refine Agg.chLen Try.underlying22 rfl rfl rfl rfl ?_
      refine Agg.chAr64 rfl rfl rfl rfl (by omega) (by omega) rfl rfl ?_
      refine Agg.chInt ((A.length - 1 : Nat) : Int) HW1.out (by kernel_rfl) Try.underlying42 rfl rfl rfl rfl ?_
      refine Agg.chLoadB HS.out (by decide +kernel) rfl rfl (by rfl) rfl rfl ?_
      refine Agg.chAr (r := ((4611686018427387904 - n : Nat) : Int)) rfl rfl rfl HW2.out rfl rfl ?_
      refine Agg.chGt true (decide_eq_true (by omega)) rfl rfl rfl rfl rfl ?_
      refine Agg.chEnd ?_
      intro vs w2 hb _
      show Exit.then _ _ Exit.normal _ _
      simp only [List.reverse, List.reverseAux, Agg.fill, List.set_cons_succ, List.set_cons_zero]
      replace HB := Lib.hid (HB.out.trans (hb.mono HB.out.size))
      replace HS := Lib.hid (HS.out.keep hb)
      replace HA1 := Lib.hid (HA1.out.keep hb)
      replace HF := Lib.hid (HF.out.keep hb)
      replace HBB := Lib.hid (HBB.out.keep hb)
      replace HL := Lib.hid (HL.out.keep hb)
      replace H1 := Lib.hid (H1.out.keep hb)
      clear hb
      have h1 := H1.out
      go_wp2_with (first
        | (refine Agg.gBuild0 (.agg #[.slice none 0 0, .slice none 0 0, .int .i64 0, .bool false]) rfl rfl (fun W => zero_dev W) ?_; simp only [Act.put, List.setIfInBounds_toArray, List.set_cons_succ, List.set_cons_zero])
        | (refine Agg.gStoreB 4 [.slice none 0 0, .slice none 0 0, .int .i64 0, .bool false] h1 rfl rfl rfl rfl rfl (by decide +kernel) rfl rfl (by simp [Value.oneCell']) (fun w14 hb14 hg14 => ?_)))
      refine bodyPost_ret (results_row2 (m := 4) rfl hb14 rfl (by decide +kernel) rfl) rfl ⟨_, rfl, devR_zero _, ?_⟩
      exact below_grown (HB.out.trans (grown_below hg14 HB.out.size (fun j hj => (by cases hj; omega)))) _
    · have hg := HG2.out
      rw [if_neg hfull] at hg
      have HG3 := Lib.hid hg
      clear hg HG2
      have HW1 : Hid (IntKind.u64.wrap ((A.length : Int) - 1) = ((A.length - 1 : Nat) : Int)) := Lib.hid (by rw [u64_small (by omega) (by omega)]; omega)
      have HW2 : Hid (some (IntKind.u64.wrap ((4611686018427387904 : Int) - (n : Int))) = some ((4611686018427387904 - n : Nat) : Int)) := Lib.hid (by rw [u64_small (by omega) (by omega)]; congr 1; omega)
      refine Agg.listR 7 (by kernel_rfl) ?_
      simp only [List.take_succ_cons, List.take_zero, List.drop_succ_cons, List.drop_zero]
      refine Agg.chLoadB HA1.out (by decide +kernel) rfl rfl (by rfl) rfl rfl ?_
      refine Agg.chLen Try.underlying22 rfl rfl rfl rfl ?_
      refine Agg.chAr64 rfl rfl rfl rfl (by omega) (by omega) rfl rfl ?_
      refine Agg.chInt ((A.length - 1 : Nat) : Int) HW1.out (by kernel_rfl) Try.underlying42 rfl rfl rfl rfl ?_
      refine Agg.chLoadB HS.out (by decide +kernel) rfl rfl (by rfl) rfl rfl ?_
      refine Agg.chAr (r := ((4611686018427387904 - n : Nat) : Int)) rfl rfl rfl HW2.out rfl rfl ?_
      refine Agg.chGt false (decide_eq_false (by omega)) rfl rfl rfl rfl rfl ?_
      refine Agg.chEnd ?_
      intro vs w3 hb _
      show Exit.then _ _ Exit.normal _ _
      simp only [List.reverse, List.reverseAux, Agg.fill, List.set_cons_succ, List.set_cons_zero]
      replace HB := Lib.hid (HB.out.trans (hb.mono HB.out.size))
      replace HS := Lib.hid (HS.out.keep hb)
      replace HA1 := Lib.hid (HA1.out.keep hb)
      replace HF := Lib.hid (HF.out.keep hb)
      replace HBB := Lib.hid (HBB.out.keep hb)
      replace HL := Lib.hid (HL.out.keep hb)
      replace H1 := Lib.hid (H1.out.keep hb)
      clear hb
      have xHS_0 := HS.out.cell 0
      have lHS := HS.out.lt
      simp only [List.getElem?_cons_zero] at xHS_0
      have xHF_0 := HF.out.cell 0
      have lHF := HF.out.lt
      simp only [List.getElem?_cons_zero] at xHF_0
      have xHBB_0 := HBB.out.cell 0
      have lHBB := HBB.out.lt
      simp only [List.getElem?_cons_zero] at xHBB_0
      go_wp2_with fail
      clear xHS_0 lHS xHF_0 lHF xHBB_0 lHBB
      have hKW : LaidR w3 kl d ax A.length ac kind := by obtain ⟨px, cx, pc, cc, h1, h2, h3⟩ := HK.out; exact ⟨px, cx, pc, cc, h1.keep HB.out, SlR.keep h2 HB.out, SlR.keep h3 HB.out⟩
      refine (puts_any d A B kind n ax ac b o cap kl w0 w3 HDG.out hc hKW HA0.out HB0.out (HW0.out.trans (HB.out.mono HW0.out.size)) hkl hm3 hs1 (by omega) hal hbn HN2.out).mono ?_
      rw [HG3.out]
      rintro e w9 ⟨rfl, hlr, hgr⟩
      have hsz := HB.out.size
      have h1 := H1.out.far' hgr (by omega)
      have hl9 := (HL.out.far' hgr hlk).cell 0
      simp only [List.getElem?_cons_zero] at hl9
      obtain ⟨px, cx, pc, cc, hq1, hq2, hq3⟩ := hlr
      have hc4 := laid_cells hq1
      have hdv : DevR w9 (.agg #[.slice px g.2.pages.length pc, .slice cx g.2.cache.length cc, .int .i64 g.2.fuse, .bool g.2.off]) g.2 := ⟨px, cx, pc, cc, rfl, hq2, hq3⟩
      clear hq2 hq3
      go_wp2_with (first
        | (refine Agg.gLoad 4 [.slice px g.2.pages.length pc, .slice cx g.2.cache.length cc, .int .i64 g.2.fuse, .bool g.2.off] rfl rfl rfl (by decide +kernel) rfl hc4 ?_; simp only [Act.put, List.setIfInBounds_toArray, List.set_cons_succ, List.set_cons_zero])
        | (refine Agg.gStoreB 4 [.slice px g.2.pages.length pc, .slice cx g.2.cache.length cc, .int .i64 g.2.fuse, .bool g.2.off] h1 rfl rfl rfl rfl rfl (by decide +kernel) rfl rfl (by simp [Value.oneCell']) (fun w14 hb14 hg14 => ?_)))
      refine bodyPost_ret (results_row2 (m := 4) rfl hb14 rfl (by decide +kernel) rfl) rfl ⟨_, rfl, hdv.far HOK.out h1 hg14, ?_⟩
      exact grown_new HB.out hgr hg14
  · have hg := HG.out
    rw [putR, if_pos hst] at hg
    subst hg
    have h1 := H1.out
    have x0 := HS.out.cell 0
    simp only [List.getElem?_cons_zero] at x0
    unfold stampP at hst
    by_cases hlow : (n : Int) < 1
    · go_wp2_with (first
        | (refine Agg.gBuild0 (.agg #[.slice none 0 0, .slice none 0 0, .int .i64 0, .bool false]) rfl rfl (fun W => zero_dev W) ?_; simp only [Act.put, List.setIfInBounds_toArray, List.set_cons_succ, List.set_cons_zero])
        | (refine Agg.gStoreB 4 [.slice none 0 0, .slice none 0 0, .int .i64 0, .bool false] h1 rfl rfl rfl rfl rfl (by decide +kernel) rfl rfl (by simp [Value.oneCell']) (fun w14 hb14 hg14 => ?_)))
      refine bodyPost_ret (results_row2 (m := 4) rfl hb14 rfl (by decide +kernel) rfl) rfl ⟨_, rfl, devR_zero _, ?_⟩
      exact below_grown (HB.out.trans (grown_below hg14 HB.out.size (fun j hj => (by cases hj; omega)))) _
    · have hhi : (n : Int) > 4611686018427387904 := by omega
      clear hst
      go_wp2_with (first
        | (refine Agg.gBuild0 (.agg #[.slice none 0 0, .slice none 0 0, .int .i64 0, .bool false]) rfl rfl (fun W => zero_dev W) ?_; simp only [Act.put, List.setIfInBounds_toArray, List.set_cons_succ, List.set_cons_zero])
        | (refine Agg.gStoreB 4 [.slice none 0 0, .slice none 0 0, .int .i64 0, .bool false] h1 rfl rfl rfl rfl rfl (by decide +kernel) rfl rfl (by simp [Value.oneCell']) (fun w14 hb14 hg14 => ?_)))
      refine bodyPost_ret (results_row2 (m := 4) rfl hb14 rfl (by decide +kernel) rfl) rfl ⟨_, rfl, devR_zero _, ?_⟩
      exact below_grown (HB.out.trans (grown_below hg14 HB.out.size (fun j hj => (by cases hj; omega)))) _
end Go.Proofs.Ytgfmpkcgkjpgnaa
