/-
  FILES: Put.
-/
import Derived.Test.YtgfmpkcgkjpgnaaFiH
import Derived.Test.YtgfmpkcgkjpgnaaFiE
section
namespace Go.Proofs.Ytgfmpkcgkjpgnaa
open Go.ChangeShapes Go.WideShapes Go.ChangeAt Go.RowKit Agg Pg Dv Fi
attribute [local go_sem] Oper.semAt_some

theorem blksF_bok (kind : Int) (n : Nat) (B : List UInt8) (A : List Int) : ∀ i, n + i + A.length < 18446744073709551616 → ∀ x ∈ blksF kind n B i A, BOk x.2 := by
  induction A with
  | nil => intro i _ x hx; simp [blksF] at hx
  | cons a l ih =>
    intro i hn x hx
    rw [List.length_cons] at hn
    rw [blksF, List.mem_cons] at hx
    rcases hx with rfl | hx
    · exact lay_bok _ _ _ (partB_len B i) (by omega)
    · exact ih (i + 1) (by omega) x hx
/-- what Put's closure puts -/
def putR (d : Dev) (A : List Int) (kind : Int) (n : Nat) (B : List UInt8) : Int × Dev := if ¬ stampP n then (2, dev0) else if 4611686018427387904 - n < A.length - 1 then (8, dev0) else putsP d (blksF kind n B 0 A)
theorem putR_good {d : Dev} (h : DGood d) (A : List Int) (kind : Int) (n : Nat) (B : List UInt8) (ha : A.length ≤ 1000) : DGood (putR d A kind n B).2 := by
  unfold putR
  split
  · exact dev0_good
  · rename_i hs
    split
    · exact dev0_good
    · refine putsP_good (blksF_bok _ _ _ _ 0 ?_) h
      have := (Classical.not_not.1 hs).2
      omega
theorem mayB_facts {A : List Int} {kind bytes : Int} {np : Nat} (h : mayB A kind bytes np = true) : 1 ≤ bytes ∧ (A.length : Int) = needN bytes ∧ (kind = 3 ∨ kind = 4) ∧ okA np [] A = true := by
  unfold mayB at h
  simp only [Bool.and_eq_true, Bool.or_eq_true, decide_eq_true_eq] at h
  exact ⟨h.1.1.1, h.1.1.2, h.1.2, h.2⟩
theorem fPut_ask (d : Dev) (A : List Int) (kind : Int) (n : Nat) (B : List UInt8) : fPut d A kind n B = if (askP d (mayB A kind B.length d.pages.length) (putR d A kind n B)).1 = 10 ∧ d.off = true then goesP d (flushP d) else askP d (mayB A kind B.length d.pages.length) (putR d A kind n B) := by
  unfold fPut askP putR
  cases hr : rightD d
  · simp
  · cases ho : d.off
    · simp
    · simp [goesP, hr, ho]
/-- a block of one's own is written at last -/
theorem grown_new {w w1 w2 w3 : World} {x : Option Nat} (hb : Below w.heap.size w w1) (h1 : w1.grownBy w2 x) (h2 : w2.grownBy w3 (some w.heap.size)) : w.grownBy w3 x :=
  ⟨h2.os.trans (h1.os.trans hb.os), h2.tape.trans (h1.tape.trans hb.tape), h2.output.trans (h1.output.trans hb.output), Nat.le_trans hb.size (Nat.le_trans h1.size h2.size), fun k hk hne => (h2.block k (Nat.lt_of_lt_of_le hk (Nat.le_trans hb.size h1.size)) (by simp; omega)).trans ((h1.block k (Nat.lt_of_lt_of_le hk hb.size) hne).trans (hb.block k hk))⟩
set_option maxHeartbeats 4000000 in
set_option maxRecDepth 100000 in
theorem fputC_any (d : Dev) (A : List Int) (B : List UInt8) (kind : Int) (n : Nat) (ax bx : Option Addr) (ac cap bs ba bf bb bl kl : Nat) (w0 w : World) (hd : DGood d) (hc : d.cache.length ≤ 10000)
    (hbs : Blk w bs 42 [.int .u64 (n : Int)]) (hba : Blk w ba 22 [.slice ax A.length ac]) (hbf : Blk w bf 93 [.func (.func 44) #[.pointer (some ⟨kl, 0, none⟩)] #[]]) (hbb : Blk w bb 39 [.slice bx B.length cap]) (hbl : Blk w bl 90 [.pointer (some ⟨kl, 0, none⟩)])
    (hk : LaidR w kl d ax A.length ac kind) (hA : Ints w0 (.slice ax A.length ac) A) (hB : Bytes w0 (.slice bx B.length cap) B) (h0 : Below w0.heap.size w0 w) (hkl : w0.heap.size ≤ kl) (hlk : bl ≠ kl) (hal : A.length ≤ 1000) (hbn : B.length ≤ 1000000)
    (hn : n < 18446744073709551616) (hm : mayB A kind B.length d.pages.length = true) :
    Calls Try.prog 46 #[.pointer (some ⟨bs, 0, none⟩), .pointer (some ⟨ba, 0, none⟩), .pointer (some ⟨bf, 0, none⟩), .pointer (some ⟨bb, 0, none⟩), .pointer (some ⟨bl, 0, none⟩)] w fun e w' => ∃ v, e = .returned (.tuple #[v, .int .i64 (putR d A kind n B).1]) ∧ DevR w' v (putR d A kind n B).2 ∧ w.grownBy w' (some kl) := by
  obtain ⟨hm1, hm2, hm3, hm4⟩ := mayB_facts hm
  obtain ⟨b, o, cap', hve, hcp1, hcp2, _, _⟩ := SlR.pos hB (by decide) (by omega)
  simp only [Value.slice.injEq, true_and] at hve
  obtain ⟨rfl, rfl⟩ := hve
  have ha1 : 1 ≤ A.length := by unfold needN at hm2; split at hm2 <;> omega
  have HOK := Lib.hid (putR_good hd A kind n B hal).ok
  obtain ⟨g, hg⟩ : ∃ g, putR d A kind n B = g := ⟨_, rfl⟩
  rw [hg] at HOK ⊢
  have HG := Lib.hid hg
  have HDG := Lib.hid hd
  have HS := Lib.hid hbs
  have HA1 := Lib.hid hba
  have HF := Lib.hid hbf
  have HBB := Lib.hid hbb
  have HL := Lib.hid hbl
  have HK := Lib.hid hk
  have HA0 := Lib.hid hA
  have HB0 := Lib.hid hB
  have HW0 := Lib.hid h0
  have HN2 := Lib.hid hm2
  have hkw : kl < w.heap.size := by obtain ⟨_, _, _, _, h, _⟩ := hk; exact h.lt
  clear hg hd hbs hba hbf hbb hbl hk hA hB h0 hm hm2 hm4
  have HB := Lib.hid (Below.refl w.heap.size w)
  go_enter Try.func46, Try.ntmps46
  go_upto_region 1 with (fail)
  refine Agg.wp_at fun w1 hw1 => ?_
  have hb : Below w.heap.size w w1 := by rw [hw1.out]; repeat (first | exact Below.refl _ _ | refine Agg.bel_drew ?_ | refine Agg.bel_alloc ?_ _)
  replace HB := Lib.hid (HB.out.trans (hb.mono HB.out.size))
  clear hb
  have H1 : Hid (Blk w1 w.heap.size 46 [.slice none 0 0, .slice none 0 0, .int .i64 0, .bool false]) := by show Blk _ _ _ _; rw [hw1.out]; exact Blk.new w 46 #[.slice none 0 0, .slice none 0 0, .int .i64 0, .bool false]
  clear hw1
  replace HS := Lib.hid (HS.out.keep HB.out)
  replace HA1 := Lib.hid (HA1.out.keep HB.out)
  replace HF := Lib.hid (HF.out.keep HB.out)
  replace HBB := Lib.hid (HBB.out.keep HB.out)
  replace HL := Lib.hid (HL.out.keep HB.out)
  by_cases hst : stampP n
  · obtain ⟨hs1, hs2⟩ := hst
    have hg := HG.out
    rw [putR, if_neg (fun h => h ⟨hs1, hs2⟩)] at hg
    have HG2 := Lib.hid hg
    clear hg HG
    have xHS_0 := HS.out.cell 0
    have lHS := HS.out.lt
    simp only [List.getElem?_cons_zero] at xHS_0
    go_upto_region 3 with (fail)
    clear xHS_0 lHS
    by_cases hfull : 4611686018427387904 - n < A.length - 1
    · have hg := HG2.out
      rw [if_pos hfull] at hg
      subst hg
      have HW1 : Hid (IntKind.u64.wrap ((A.length : Int) - 1) = ((A.length - 1 : Nat) : Int)) := Lib.hid (by rw [u64_small (by omega) (by omega)]; omega)
      have HW2 : Hid (some (IntKind.u64.wrap ((4611686018427387904 : Int) - (n : Int))) = some ((4611686018427387904 - n : Nat) : Int)) := Lib.hid (by rw [u64_small (by omega) (by omega)]; congr 1; omega)
      refine Agg.listR 7 (by kernel_rfl) ?_
      simp only [List.take_succ_cons, List.take_zero, List.drop_succ_cons, List.drop_zero]
      refine Agg.chLoadB HA1.out (by decide +kernel) rfl rfl (by rfl) rfl rfl ?_
      refine Agg.chLen Try.underlying22 rfl rfl rfl rfl ?_
      refine Agg.chAr64 rfl rfl rfl rfl (by omega) (by omega) rfl rfl ?_
      refine Agg.chInt ((A.length - 1 : Nat) : Int) HW1.out (by kernel_rfl) Try.underlying42 rfl rfl rfl rfl ?_
      refine Agg.chLoadB HS.out (by decide +kernel) rfl rfl (by rfl) rfl rfl ?_
      refine Agg.chAr (r := ((4611686018427387904 - n : Nat) : Int)) rfl rfl rfl HW2.out rfl rfl ?_
      refine Agg.chGt true (decide_eq_true (by omega)) rfl rfl rfl rfl rfl ?_
      refine Agg.chEnd ?_
      intro vs w2 hb _
      show Exit.then _ _ Exit.normal _ _
      simp only [List.reverse, List.reverseAux, Agg.fill, List.set_cons_succ, List.set_cons_zero]
      replace HB := Lib.hid (HB.out.trans (hb.mono HB.out.size))
      replace HS := Lib.hid (HS.out.keep hb)
      replace HA1 := Lib.hid (HA1.out.keep hb)
      replace HF := Lib.hid (HF.out.keep hb)
      replace HBB := Lib.hid (HBB.out.keep hb)
      replace HL := Lib.hid (HL.out.keep hb)
      replace H1 := Lib.hid (H1.out.keep hb)
      clear hb
      have h1 := H1.out
      go_wp2_with (first
        | (refine Agg.gBuild0 (.agg #[.slice none 0 0, .slice none 0 0, .int .i64 0, .bool false]) rfl rfl (fun W => zero_dev W) ?_; simp only [Act.put, List.setIfInBounds_toArray, List.set_cons_succ, List.set_cons_zero])
        | (refine Agg.gStoreB 4 [.slice none 0 0, .slice none 0 0, .int .i64 0, .bool false] h1 rfl rfl rfl rfl rfl (by decide +kernel) rfl rfl (by simp [Value.oneCell']) (fun w14 hb14 hg14 => ?_)))
      refine bodyPost_ret (results_row2 (m := 4) rfl hb14 rfl (by decide +kernel) rfl) rfl ⟨_, rfl, devR_zero _, ?_⟩
      exact below_grown (HB.out.trans (grown_below hg14 HB.out.size (fun j hj => (by cases hj; omega)))) _
    · have hg := HG2.out
      rw [if_neg hfull] at hg
      have HG3 := Lib.hid hg
      clear hg HG2
      have HW1 : Hid (IntKind.u64.wrap ((A.length : Int) - 1) = ((A.length - 1 : Nat) : Int)) := Lib.hid (by rw [u64_small (by omega) (by omega)]; omega)
      have HW2 : Hid (some (IntKind.u64.wrap ((4611686018427387904 : Int) - (n : Int))) = some ((4611686018427387904 - n : Nat) : Int)) := Lib.hid (by rw [u64_small (by omega) (by omega)]; congr 1; omega)
      refine Agg.listR 7 (by kernel_rfl) ?_
      simp only [List.take_succ_cons, List.take_zero, List.drop_succ_cons, List.drop_zero]
      refine Agg.chLoadB HA1.out (by decide +kernel) rfl rfl (by rfl) rfl rfl ?_
      refine Agg.chLen Try.underlying22 rfl rfl rfl rfl ?_
      refine Agg.chAr64 rfl rfl rfl rfl (by omega) (by omega) rfl rfl ?_
      refine Agg.chInt ((A.length - 1 : Nat) : Int) HW1.out (by kernel_rfl) Try.underlying42 rfl rfl rfl rfl ?_
      refine Agg.chLoadB HS.out (by decide +kernel) rfl rfl (by rfl) rfl rfl ?_
      refine Agg.chAr (r := ((4611686018427387904 - n : Nat) : Int)) rfl rfl rfl HW2.out rfl rfl ?_
      refine Agg.chGt false (decide_eq_false (by omega)) rfl rfl rfl rfl rfl ?_
      refine Agg.chEnd ?_
      intro vs w3 hb _
      show Exit.then _ _ Exit.normal _ _
      simp only [List.reverse, List.reverseAux, Agg.fill, List.set_cons_succ, List.set_cons_zero]
      replace HB := Lib.hid (HB.out.trans (hb.mono HB.out.size))
      replace HS := Lib.hid (HS.out.keep hb)
      replace HA1 := Lib.hid (HA1.out.keep hb)
      replace HF := Lib.hid (HF.out.keep hb)
      replace HBB := Lib.hid (HBB.out.keep hb)
      replace HL := Lib.hid (HL.out.keep hb)
      replace H1 := Lib.hid (H1.out.keep hb)
      clear hb
      have xHS_0 := HS.out.cell 0
      have lHS := HS.out.lt
      simp only [List.getElem?_cons_zero] at xHS_0
      have xHF_0 := HF.out.cell 0
      have lHF := HF.out.lt
      simp only [List.getElem?_cons_zero] at xHF_0
      have xHBB_0 := HBB.out.cell 0
      have lHBB := HBB.out.lt
      simp only [List.getElem?_cons_zero] at xHBB_0
      go_wp2_with fail
      clear xHS_0 lHS xHF_0 lHF xHBB_0 lHBB
      have hKW : LaidR w3 kl d ax A.length ac kind := by obtain ⟨px, cx, pc, cc, h1, h2, h3⟩ := HK.out; exact ⟨px, cx, pc, cc, h1.keep HB.out, SlR.keep h2 HB.out, SlR.keep h3 HB.out⟩
      refine (puts_any d A B kind n ax ac b o cap kl w0 w3 HDG.out hc hKW HA0.out HB0.out (HW0.out.trans (HB.out.mono HW0.out.size)) hkl hm3 hs1 (by omega) hal hbn HN2.out).mono ?_
      rw [HG3.out]
      rintro e w9 ⟨rfl, hlr, hgr⟩
      have hsz := HB.out.size
      have h1 := H1.out.far' hgr (by omega)
      have hl9 := (HL.out.far' hgr hlk).cell 0
      simp only [List.getElem?_cons_zero] at hl9
      obtain ⟨px, cx, pc, cc, hq1, hq2, hq3⟩ := hlr
      have hc4 := laid_cells hq1
      have hdv : DevR w9 (.agg #[.slice px g.2.pages.length pc, .slice cx g.2.cache.length cc, .int .i64 g.2.fuse, .bool g.2.off]) g.2 := ⟨px, cx, pc, cc, rfl, hq2, hq3⟩
      clear hq2 hq3
      go_wp2_with (first
        | (refine Agg.gLoad 4 [.slice px g.2.pages.length pc, .slice cx g.2.cache.length cc, .int .i64 g.2.fuse, .bool g.2.off] rfl rfl rfl (by decide +kernel) rfl hc4 ?_; simp only [Act.put, List.setIfInBounds_toArray, List.set_cons_succ, List.set_cons_zero])
        | (refine Agg.gStoreB 4 [.slice px g.2.pages.length pc, .slice cx g.2.cache.length cc, .int .i64 g.2.fuse, .bool g.2.off] h1 rfl rfl rfl rfl rfl (by decide +kernel) rfl rfl (by simp [Value.oneCell']) (fun w14 hb14 hg14 => ?_)))
      refine bodyPost_ret (results_row2 (m := 4) rfl hb14 rfl (by decide +kernel) rfl) rfl ⟨_, rfl, hdv.far HOK.out h1 hg14, ?_⟩
      exact grown_new HB.out hgr hg14
  · have hg := HG.out
    rw [putR, if_pos hst] at hg
    subst hg
    have h1 := H1.out
    have x0 := HS.out.cell 0
    simp only [List.getElem?_cons_zero] at x0
    unfold stampP at hst
    by_cases hlow : (n : Int) < 1
    · go_wp2_with (first
        | (refine Agg.gBuild0 (.agg #[.slice none 0 0, .slice none 0 0, .int .i64 0, .bool false]) rfl rfl (fun W => zero_dev W) ?_; simp only [Act.put, List.setIfInBounds_toArray, List.set_cons_succ, List.set_cons_zero])
        | (refine Agg.gStoreB 4 [.slice none 0 0, .slice none 0 0, .int .i64 0, .bool false] h1 rfl rfl rfl rfl rfl (by decide +kernel) rfl rfl (by simp [Value.oneCell']) (fun w14 hb14 hg14 => ?_)))
      refine bodyPost_ret (results_row2 (m := 4) rfl hb14 rfl (by decide +kernel) rfl) rfl ⟨_, rfl, devR_zero _, ?_⟩
      exact below_grown (HB.out.trans (grown_below hg14 HB.out.size (fun j hj => (by cases hj; omega)))) _
    · have hhi : (n : Int) > 4611686018427387904 := by omega
      clear hst
      go_wp2_with (first
        | (refine Agg.gBuild0 (.agg #[.slice none 0 0, .slice none 0 0, .int .i64 0, .bool false]) rfl rfl (fun W => zero_dev W) ?_; simp only [Act.put, List.setIfInBounds_toArray, List.set_cons_succ, List.set_cons_zero])
        | (refine Agg.gStoreB 4 [.slice none 0 0, .slice none 0 0, .int .i64 0, .bool false] h1 rfl rfl rfl rfl rfl (by decide +kernel) rfl rfl (by simp [Value.oneCell']) (fun w14 hb14 hg14 => ?_)))
      refine bodyPost_ret (results_row2 (m := 4) rfl hb14 rfl (by decide +kernel) rfl) rfl ⟨_, rfl, devR_zero _, ?_⟩
      exact below_grown (HB.out.trans (grown_below hg14 HB.out.size (fun j hj => (by cases hj; omega)))) _
end Go.Proofs.Ytgfmpkcgkjpgnaa
end
section
/-
  FILES: Put, the function.
-/
namespace Go.Proofs.Ytgfmpkcgkjpgnaa
open Go.ChangeShapes Go.WideShapes Go.ChangeAt Go.RowKit Agg Pg Dv Fi
attribute [local go_sem] Oper.semAt_some

set_option maxHeartbeats 4000000 in
set_option maxRecDepth 100000 in
theorem fPut_any (d : Dev) (A : List Int) (kind : Int) (n : Nat) (B : List UInt8) (dv av bv : Value) (w : World) (hd : DGood d) (hc : d.cache.length ≤ 10000) (hD : DevR w dv d) (hA : Ints w av A) (hB : Bytes w bv B) (hal : A.length ≤ 1000) (hbn : B.length ≤ 1000000) (hn : n < 18446744073709551616) :
    Calls Try.prog 22 #[dv, av, .int .i64 kind, .int .u64 (n : Int), bv] w fun e w' => ∃ v, e = .returned (.tuple #[v, .int .i64 (fPut d A kind n B).1]) ∧ DevR w' v (fPut d A kind n B).2 ∧ Below w.heap.size w w' := by
  obtain ⟨ax, ac, rfl, _, _⟩ := SlR.shape hA
  obtain ⟨bx, cap, rfl, _, _⟩ := SlR.shape hB
  obtain ⟨px, cx, pc, cc, rfl, hk2, hk3⟩ := hD
  have HD : Hid (DevR w (.agg #[.slice px d.pages.length pc, .slice cx d.cache.length cc, .int .i64 d.fuse, .bool d.off]) d) := Lib.hid ⟨px, cx, pc, cc, rfl, hk2, hk3⟩
  have HD0 := Lib.hid HD.out
  have HA0 := Lib.hid hA
  have HB0 := Lib.hid hB
  have HDG := Lib.hid hd
  rw [fPut_ask]
  have HOK := Lib.hid (putR_good hd A kind n B hal).ok
  obtain ⟨r, hr⟩ : ∃ r, askP d (mayB A kind B.length d.pages.length) (putR d A kind n B) = r := ⟨_, rfl⟩
  rw [hr]
  have HR := Lib.hid hr
  have HRK : Hid (DOk r.2) := by
    refine Lib.hid ?_
    rw [← hr, askP]
    split
    · exact dev0_ok
    · split
      · exact dev0_ok
      · split
        · exact dev0_ok
        · exact HOK.out
  obtain ⟨g, hg⟩ : ∃ g, (if r.1 = 10 ∧ d.off = true then goesP d (flushP d) else r) = g := ⟨_, rfl⟩
  rw [hg]
  have HG := Lib.hid hg
  clear hg hr hd hA hB hk2 hk3
  have HB := Lib.hid (Below.refl w.heap.size w)
  go_enter Try.func22, Try.ntmps22
  go_upto_region 1 with (fail)
  refine Agg.wp_at fun w1 hw1 => ?_
  have hb : Below w.heap.size w w1 := by rw [hw1.out]; repeat (first | exact Below.refl _ _ | refine Agg.bel_drew ?_ | refine Agg.bel_alloc ?_ _)
  replace HB := Lib.hid (HB.out.trans (hb.mono HB.out.size))
  replace HD := Lib.hid (HD.out.keep hb)
  clear hb
  have H1 : Hid (Blk w1 w.heap.size 46 [.slice px d.pages.length pc, .slice cx d.cache.length cc, .int .i64 d.fuse, .bool d.off]) := by show Blk _ _ _ _; rw [hw1.out]; exact ((((Blk.new w 46 #[.slice px d.pages.length pc, .slice cx d.cache.length cc, .int .i64 d.fuse, .bool d.off]).al _).al _).al _).al _
  have H2 : Hid (Blk w1 (w.heap.size + 1) 22 [.slice ax A.length ac]) := by show Blk _ _ _ _; rw [hw1.out]; exact (((Blk.newAt (w.alloc _) 22 #[.slice ax A.length ac] _ (by simp)).al _).al _).al _
  have H3 : Hid (Blk w1 (w.heap.size + 1 + 1) 42 [.int .u64 (n : Int)]) := by show Blk _ _ _ _; rw [hw1.out]; exact ((Blk.newAt ((w.alloc _).alloc _) 42 #[.int .u64 (n : Int)] _ (by simp)).al _).al _
  have H4 : Hid (Blk w1 (w.heap.size + 1 + 1 + 1) 39 [.slice bx B.length cap]) := by show Blk _ _ _ _; rw [hw1.out]; exact (Blk.newAt (((w.alloc _).alloc _).alloc _) 39 #[.slice bx B.length cap] _ (by simp)).al _
  have H5 : Hid (Blk w1 (w.heap.size + 1 + 1 + 1 + 1) 46 [.slice none 0 0, .slice none 0 0, .int .i64 0, .bool false]) := by show Blk _ _ _ _; rw [hw1.out]; exact Blk.newAt ((((w.alloc _).alloc _).alloc _).alloc _) 46 #[.slice none 0 0, .slice none 0 0, .int .i64 0, .bool false] _ (by simp)
  clear hw1
  have l5 := H5.out.lt
  have xH2_0 := H2.out.cell 0
  have lH2 := H2.out.lt
  simp only [List.getElem?_cons_zero] at xH2_0
  have h1 := H1.out
  go_upto_region 2 with (first
    | (refine Agg.gLoadB 4 h1 rfl rfl rfl rfl (by decide +kernel) ?_; simp only [Act.put, List.setIfInBounds_toArray, List.set_cons_succ, List.set_cons_zero]))
  clear xH2_0 lH2
  clear h1
  obtain ⟨kl, hkl⟩ : ∃ k, w1.heap.size = k := ⟨_, rfl⟩
  rw [hkl] at l5 ⊢
  have hkls := hkl
  refine Agg.wp_at fun w2 hw2 => ?_
  have hb : Below w1.heap.size w1 w2 := by rw [hw2.out]; repeat (first | exact Below.refl _ _ | refine Agg.bel_drew ?_ | refine Agg.bel_alloc ?_ _)
  replace HB := Lib.hid (HB.out.trans (hb.mono HB.out.size))
  replace HD := Lib.hid (HD.out.keep hb)
  replace H1 := Lib.hid (H1.out.keep hb)
  replace H2 := Lib.hid (H2.out.keep hb)
  replace H3 := Lib.hid (H3.out.keep hb)
  replace H4 := Lib.hid (H4.out.keep hb)
  replace H5 := Lib.hid (H5.out.keep hb)
  clear hb
  have HL : Hid (LaidR w2 kl d ax A.length ac kind) := by
    refine Lib.hid ?_
    obtain ⟨x, y, c1, c2, he, hp, hv⟩ := HD.out
    simp only [Value.agg.injEq, Array.mk.injEq, List.cons.injEq, Value.slice.injEq, true_and, and_true] at he
    obtain ⟨⟨rfl, rfl⟩, rfl, rfl⟩ := he
    refine ⟨px, cx, pc, cc, ?_, hp, hv⟩
    show Blk _ _ _ _
    rw [hw2.out, ← hkls]
    exact (Blk.new w1 92 (LaidV px cx ax d.pages.length pc d.cache.length cc A.length ac d.fuse d.off kind).toArray).al _
  have H6 : Hid (Blk w2 (kl + 1) 90 [.pointer (some ⟨kl, 0, none⟩)]) := by show Blk _ _ _ _; rw [hw2.out]; exact Blk.newAt (w1.alloc _) 90 #[.pointer (some ⟨kl, 0, none⟩)] _ (by rw [← hkls]; simp)
  clear hw2
  have l6 := H6.out.lt
  have xH6_0 := H6.out.cell 0
  have lH6 := H6.out.lt
  simp only [List.getElem?_cons_zero] at xH6_0
  obtain ⟨kf, hkf⟩ : ∃ k, w2.heap.size = k := ⟨_, rfl⟩
  rw [hkf] at l6
  have hfn := Blk.newAt w2 93 #[Value.nilFunc] _ hkf.symm
  go_upto_region 3 with (first
    | (refine Agg.gStoreCell 0 (.func (.func 44) #[.pointer (some ⟨kl, 0, none⟩)] #[]) hfn rfl rfl rfl rfl rfl (by kernel_rfl) rfl (by simp) rfl (fun w3 hb3 hg3 => ?_)))
  clear xH6_0 lH6
  clear hfn
  simp only [spliced, List.take_zero, List.drop_succ_cons, List.nil_append, List.drop_nil, List.append_nil, List.length_cons, List.length_nil] at hb3
  have hbE : Below w2.heap.size w2 w3 := ((Below.refl _ _).alloc (Nat.le_refl _) _).trans (grown_below hg3 (by simp) (fun j hj => by cases hj; omega))
  have H7 := Lib.hid hb3
  replace HL : Hid (LaidR w3 kl d ax A.length ac kind) := Lib.hid (by obtain ⟨x, y, c1, c2, h1, h2, h3⟩ := HL.out; exact ⟨x, y, c1, c2, h1.keep hbE, SlR.keep h2 hbE, SlR.keep h3 hbE⟩)
  clear hb3 hg3 hkf
  have hb := hbE
  replace HB := Lib.hid (HB.out.trans (hb.mono HB.out.size))
  replace HD := Lib.hid (HD.out.keep hb)
  replace H1 := Lib.hid (H1.out.keep hb)
  replace H2 := Lib.hid (H2.out.keep hb)
  replace H3 := Lib.hid (H3.out.keep hb)
  replace H4 := Lib.hid (H4.out.keep hb)
  replace H5 := Lib.hid (H5.out.keep hb)
  replace H6 := Lib.hid (H6.out.keep hb)
  clear hb
  have xH6_0 := H6.out.cell 0
  have lH6 := H6.out.lt
  simp only [List.getElem?_cons_zero] at xH6_0
  have xH4_0 := H4.out.cell 0
  have lH4 := H4.out.lt
  simp only [List.getElem?_cons_zero] at xH4_0
  go_wp2_with fail
  clear xH6_0 lH6 xH4_0 lH4
  have hkw : kl < w3.heap.size := by obtain ⟨_, _, _, _, h, _⟩ := HL.out; exact h.lt
  have hwk : w.heap.size ≤ kl := by omega
  refine (askedD_any d A kind B.length 46 _ (Agg.enters Try.func46 (by kernel_rfl) rfl) (putR d A kind n B) ax ac kl w3 HDG.out HL.out (SlR.keep HA0.out HB.out) (by omega) (by omega) HOK.out (fun _ _ hm W hb => fputC_any d A B kind n ax bx ac cap _ _ _ _ _ kl w W HDG.out hc (H3.out.keep hb) (H2.out.keep hb) (H7.out.keep hb) (H4.out.keep hb) (H6.out.keep hb) (by obtain ⟨x, y, c1, c2, h1, h2, h3⟩ := HL.out; exact ⟨x, y, c1, c2, h1.keep hb, SlR.keep h2 hb, SlR.keep h3 hb⟩) HA0.out HB0.out (HB.out.trans (hb.mono HB.out.size)) hwk (by omega) hal hbn hn hm)).mono ?_
  rw [HR.out]
  rintro e w9 ⟨v, rfl, hdv, hgr⟩
  have h1 := H1.out.far' hgr (by omega)
  have h5 := H5.out.far' hgr (by omega)
  have hb9 : Below w.heap.size w w9 := HB.out.trans (grown_below hgr HB.out.size (fun j e => by cases e; exact hwk))
  obtain ⟨px9, pc9, cx9, cc9, rfl⟩ := hdv.shape
  go_upto_region 4 with (fail)
  have HB := Lib.hid hb9
  have H1 := Lib.hid h1
  have H5 := Lib.hid h5
  have HDV := Lib.hid hdv
  replace HD := Lib.hid (DevR.keep HD0.out hb9)
  clear h1 h5 hdv hgr hb9 HL H2 H3 H4 H6 H7 hwk hkw l6
  have hs9 := HB.out.size
  have h1w := H1.out.lt
  have h5w := H5.out.lt
  refine Agg.wp_at fun w41 hw41 => ?_
  have hb : Below w9.heap.size w9 w41 := by rw [hw41.out]; repeat (first | exact Below.refl _ _ | refine Agg.bel_drew ?_ | refine Agg.bel_alloc ?_ _)
  replace HB := Lib.hid (HB.out.trans (hb.mono HB.out.size))
  replace H1 := Lib.hid (H1.out.keep hb)
  replace H5 := Lib.hid (H5.out.keep hb)
  replace HD := Lib.hid (HD.out.keep hb)
  replace HDV := Lib.hid (HDV.out.keep hb)
  clear hb
  have H8 : Hid (Blk w41 w9.heap.size 46 [.slice px9 r.2.pages.length pc9, .slice cx9 r.2.cache.length cc9, .int .i64 r.2.fuse, .bool r.2.off]) := by show Blk _ _ _ _; rw [hw41.out]; exact Blk.new w9 46 #[.slice px9 r.2.pages.length pc9, .slice cx9 r.2.cache.length cc9, .int .i64 r.2.fuse, .bool r.2.off]
  clear hw41
  obtain ⟨of, hof⟩ : ∃ b, d.off = b := ⟨_, rfl⟩
  have x3 := H1.out.cell 3
  simp only [List.getElem?_cons_zero, List.getElem?_cons_succ] at x3
  have hg := HG.out
  rw [hof] at x3 hg
  have HOF := Lib.hid hof
  clear hof
  have h8 := H8.out
  have h5 := H5.out
  by_cases hz : r.1 = 10
  · have hzb : (r.1 == 10) = true := by simp [hz]
    cases of
    · rw [if_neg (by simp)] at hg
      subst hg
      clear hz
      go_wp2_with (first
        | (refine Agg.gLoadB 4 h8 rfl rfl rfl rfl (by decide +kernel) ?_; simp only [Act.put, List.setIfInBounds_toArray, List.set_cons_succ, List.set_cons_zero])
        | (refine Agg.gStoreB 4 [.slice px9 r.2.pages.length pc9, .slice cx9 r.2.cache.length cc9, .int .i64 r.2.fuse, .bool r.2.off] h5 rfl rfl rfl rfl rfl (by decide +kernel) rfl rfl (by simp [Value.oneCell']) (fun w14 hb14 hg14 => ?_)))
      refine bodyPost_ret (results_row2 (m := 4) rfl hb14 rfl (by decide +kernel) rfl) rfl ⟨_, rfl, HDV.out.far HRK.out h5 hg14, ?_⟩
      exact HB.out.trans (grown_below hg14 HB.out.size (fun j hj => by cases hj; omega))
    · rw [if_pos ⟨hz, rfl⟩] at hg
      clear hz
      have h1 := H1.out
      go_wp2_with (refine Agg.gLoadB 4 h1 rfl rfl rfl rfl (by decide +kernel) ?_; simp only [Act.put, List.setIfInBounds_toArray, List.set_cons_succ, List.set_cons_zero])
      clear x3 h8 h5 h1
      refine (flush_R HDG.out (by omega) HD.out).mono ?_
      rw [hg]
      rintro e w60 ⟨v, rfl, hdo, hb⟩
      obtain ⟨p, c, rfl, hpo, hco⟩ := hdo
      obtain ⟨px8, pc8, rfl, _, _⟩ := (ownSl hpo).shape
      obtain ⟨cx8, cc8, rfl, _, _⟩ := (ownSl hco).shape
      have h5 := H5.out.keep hb
      have hs60 : w.heap.size + 1 + 1 + 1 + 1 < w41.heap.size := H5.out.lt
      go_wp2_with (refine Agg.gStoreB 4 [.slice px8 g.2.pages.length pc8, .slice cx8 g.2.cache.length cc8, .int .i64 g.2.fuse, .bool g.2.off] h5 rfl rfl rfl rfl rfl (by decide +kernel) rfl rfl (by simp [Value.oneCell']) (fun w14 hb14 hg14 => ?_))
      refine bodyPost_ret (results_row2 (m := 4) rfl hb14 rfl (by decide +kernel) rfl) rfl ⟨_, rfl, ⟨_, _, _, _, rfl, ownSl (hpo.kept hg14 (own_off hpo hs60)), ownSl (hco.kept hg14 (own_off hco hs60))⟩, ?_⟩
      have hb60 := HB.out.trans (hb.mono HB.out.size)
      exact hb60.trans (grown_below hg14 hb60.size (fun j hj => by cases hj; omega))
  · have hzb : (r.1 == 10) = false := by simp [hz]
    rw [if_neg (fun h => hz h.1)] at hg
    subst hg
    clear hz
    go_wp2_with (first
      | (refine Agg.gLoadB 4 h8 rfl rfl rfl rfl (by decide +kernel) ?_; simp only [Act.put, List.setIfInBounds_toArray, List.set_cons_succ, List.set_cons_zero])
      | (refine Agg.gStoreB 4 [.slice px9 r.2.pages.length pc9, .slice cx9 r.2.cache.length cc9, .int .i64 r.2.fuse, .bool r.2.off] h5 rfl rfl rfl rfl rfl (by decide +kernel) rfl rfl (by simp [Value.oneCell']) (fun w14 hb14 hg14 => ?_)))
    refine bodyPost_ret (results_row2 (m := 4) rfl hb14 rfl (by decide +kernel) rfl) rfl ⟨_, rfl, HDV.out.far HRK.out h5 hg14, ?_⟩
    exact HB.out.trans (grown_below hg14 HB.out.size (fun j hj => by cases hj; omega))
end Go.Proofs.Ytgfmpkcgkjpgnaa
end
section
/-
  FILES: what Put and Get come to on a device with its power, in plain Lean.
-/
namespace Go.Proofs.Ytgfmpkcgkjpgnaa
open Go.ChangeShapes Go.WideShapes Go.ChangeAt Go.RowKit Agg Pg Dv Fi

theorem pow_new {n : Nat} (h1 : 24 ≤ n) (h2 : n ≤ 256) : PowD (newD n) := ⟨right_of (by simpa [newD] using h1) (by simpa [newD] using h2) (by simp [newD]) (by simp [newD]) (by simp [newD]) (by simp [newD]), rfl, rfl⟩
theorem may_there {A : List Int} {kind bytes : Int} {np : Nat} (h : mayB A kind bytes np = true) : ∀ a ∈ A, thereB np a = true := fun a ha => by
  obtain ⟨_, _, _, h4⟩ := mayB_facts h
  have := (okA_all np A [] h4).1 a ha
  simp only [thereB, Bool.and_eq_true, decide_eq_true_eq]; omega
theorem may_nodup {A : List Int} {kind bytes : Int} {np : Nat} (h : mayB A kind bytes np = true) : A.Nodup := (okA_all np A [] (mayB_facts h).2.2.2).2
theorem fPut_pow {d : Dev} (h : PowD d) {A : List Int} {kind : Int} {n : Nat} {B : List UInt8} (hm : mayB A kind B.length d.pages.length = true) (hn1 : 1 ≤ n) (hn2 : n + A.length ≤ 4611686018427387905) : fPut d A kind n B = (0, addD d (blksF kind n B 0 A)) ∧ PowD (addD d (blksF kind n B 0 A)) := by
  have ha : 1 ≤ A.length := by
    obtain ⟨h1, h2, _, _⟩ := mayB_facts hm
    unfold needN at h2; split at h2 <;> omega
  obtain ⟨p1, p2⟩ := puts_pow h (l := blksF kind n B 0 A) (fun x hx => may_there hm _ (blksF_key hx))
  refine ⟨?_, p2⟩
  unfold fPut
  rw [if_neg (by rw [h.1]; decide), if_neg (by rw [h.2.1]; decide), if_neg (by rw [hm]; decide), if_neg (fun h => h ⟨hn1, by omega⟩), if_neg (by omega), p1]
theorem fPut_no {d : Dev} (h : PowD d) {A : List Int} {kind : Int} {n : Nat} {B : List UInt8} (hm : mayB A kind B.length d.pages.length = false) : fPut d A kind n B = (2, dev0) := by
  unfold fPut
  rw [if_neg (by rw [h.1]; decide), if_neg (by rw [h.2.1]; decide), if_pos hm]
theorem fGet_no {d : Dev} (h : PowD d) {A : List Int} {kind bytes : Int} (hm : mayB A kind bytes d.pages.length = false) : fGet d A kind bytes = ([], 2) := by
  unfold fGet
  rw [if_neg (by rw [h.1]; decide), if_neg (by rw [h.2.1]; decide), if_pos hm]
theorem fGet_pow {d : Dev} (h : PowD d) {A : List Int} {kind bytes : Int} (hm : mayB A kind bytes d.pages.length = true) : fGet d A kind bytes = getsP d kind bytes 0 0 [] A := by
  unfold fGet
  rw [if_neg (by rw [h.1]; decide), if_neg (by rw [h.2.1]; decide), if_neg (by rw [hm]; decide)]
theorem add_read {d : Dev} (h : PowD d) {A : List Int} {kind : Int} {n : Nat} {B : List UInt8} (hp : PowD (addD d (blksF kind n B 0 A))) (hm : mayB A kind B.length d.pages.length = true) (i : Nat) (hi : i < A.length) : readP (addD d (blksF kind n B 0 A)) A[i] = (0, layB kind (partB B i) (n + i)) := by
  rw [read_pow hp.1 hp.2.1 (may_there hm _ (List.getElem_mem hi))]
  show (0, saysP d.pages (d.cache ++ blksF kind n B 0 A) A[i]) = _
  rw [says_blk kind n B (may_nodup hm) i hi]
/-- what is put is got -/
theorem put_get {d : Dev} (h : PowD d) {A : List Int} {kind : Int} {n : Nat} {B : List UInt8} (hm : mayB A kind B.length d.pages.length = true) (hn1 : 1 ≤ n) (hn2 : n + A.length ≤ 4611686018427387905) : fGet (addD d (blksF kind n B 0 A)) A kind B.length = (B, 0) := by
  obtain ⟨_, hp⟩ := fPut_pow h hm hn1 hn2
  obtain ⟨_, h2, h3, _⟩ := mayB_facts hm
  rw [fGet_pow hp hm]
  exact gets_all h3 hn1 hn2 h2 (fun i hi => add_read h hp hm i hi)
/-- the file of wakes -/
def wkB : List UInt8 := List.replicate 129 0 ++ [7]
theorem wkB_len : wkB.length = 130 := by simp [wkB]
def wkD : Dev := addD (newD 24) (blksF 3 5 wkB 0 [19, 21])
theorem wk_may : mayB [19, 21] 3 wkB.length (newD 24).pages.length = true := by
  rw [wkB_len, show (newD 24).pages.length = 24 by simp [newD]]; decide
theorem wk_put : fPut (newD 24) [19, 21] 3 5 wkB = (0, wkD) := (fPut_pow (pow_new (by decide) (by decide)) wk_may (by decide) (by decide)).1
theorem wk_pow : PowD wkD := (fPut_pow (pow_new (by decide) (by decide)) wk_may (by decide) (by decide) (n := 5)).2
theorem wk_get : fGet wkD [19, 21] 3 130 = (wkB, 0) := by
  have h := put_get (pow_new (by decide) (by decide)) wk_may (by decide) (by decide) (n := 5)
  rw [wkB_len] at h; exact h
theorem wk_none : fGet wkD [19, 21] 3 131 = ([], 300) := by
  have hp := wk_pow
  have hm : mayB [19, 21] 3 131 wkD.pages.length = true := by
    rw [show wkD.pages.length = 24 by simp [wkD, addD, newD]]; decide
  have h0 := add_read (pow_new (by decide) (by decide)) wk_pow wk_may 0 (by decide) (n := 5)
  have h1 := add_read (pow_new (by decide) (by decide)) wk_pow wk_may 1 (by decide) (n := 5)
  simp only [List.getElem_cons_zero, List.getElem_cons_succ] at h0 h1
  rw [fGet_pow hp hm]
  have r0 := read_lay 3 (partB wkB 0) 5 ⟨by decide, by decide, partB_len _ _⟩ ⟨by decide, by decide⟩
  have r1 := read_lay 3 (partB wkB 1) 6 ⟨by decide, by decide, partB_len _ _⟩ ⟨by decide, by decide⟩
  have l0 : (partB wkB 0).length = 120 := by simp [partB, wkB_len]
  have l1 : (partB wkB 1).length = 10 := by simp [partB, wkB_len]
  have e0 : readP wkD 19 = (0, layB 3 (partB wkB 0) 5) := h0
  have e1 : readP wkD 21 = (0, layB 3 (partB wkB 1) 6) := h1
  rw [gets_eq (by rw [e0]) 5 (by rw [e0]; simp only [r0]; rfl), e0]
  simp only [r0]
  rw [if_pos ⟨trivial, trivial, trivial, by rw [l0]; decide⟩, gets_eq (by rw [e1]) 5 rfl, e1]
  simp only [r1]
  rw [if_neg (fun h => by
    have := h.2.2.2
    rw [l1, List.nil_append, l0] at this
    exact absurd this (by decide))]
theorem wk_take : takeL [18, 20, 23] 24 2 = ([19, 21], 0) := by decide
theorem wk_free : (freeL [] 24).length = 6 := by decide
theorem wk_need : needN 121 = 2 := by decide
theorem addD_good {d : Dev} (h : DGood d) {l : List (Int × List Sec)} (h1 : ∀ x ∈ l, BOk x.2) (h2 : ∀ x ∈ l, thereB d.pages.length x.1 = true) : DGood (addD d l) := by
  refine ⟨h.pages, fun x hx => ?_, fun x hx => ?_, h.np⟩
  · rcases List.mem_append.1 hx with hx | hx
    · exact h.cache x hx
    · exact h1 x hx
  · rcases List.mem_append.1 hx with hx | hx
    · exact h.nums x hx
    · obtain ⟨p, hp, hq⟩ := there_nat (h2 x hx)
      rw [hp]
      exact wf_small (by omega) (by have := h.np; omega)
theorem wk_good : DGood wkD := addD_good (newD_good (by decide)) (blksF_bok _ _ _ _ 0 (by decide)) (fun x hx => may_there wk_may _ (blksF_key hx))
theorem wk_cache : wkD.cache.length = 2 := by
  show ([] ++ blksF 3 5 wkB 0 [19, 21]).length = 2
  rw [List.nil_append, blksF_length]; rfl
end Go.Proofs.Ytgfmpkcgkjpgnaa
end
