/-
  DEVICES: Put's closure.
-/
import Derived.Test.YtgfmpkcgkjpgnaaRow2
section
namespace Go.Proofs.Ytgfmpkcgkjpgnaa
open Go.ChangeShapes Go.WideShapes Go.ChangeAt Go.RowKit Agg Pg Dv

theorem blk_row {w w' : World} {t : Nat} {T : TypeId} {cs : List Value} {row : Option Nat} (h : Blk w t T cs) (hg : w.grownBy w' row) (hne : row = none ∨ row ≠ some t) : Blk w' t T cs :=
  (hg.block _ h.lt (hne.elim (fun e => by rw [e]; simp) (fun e e2 => e e2.symm))).trans h
theorem build_wr (k : Int) (b : List Sec) (hb : BOk b) (w : World) : (Instr.build 88 #[(0, .int .i64 k), (1, .agg (blkC b).toArray)]).run Try.prog w = .ok (.agg (wrC (k, b)).toArray) w := by
  have h := run_build_seq (P := Try.prog) (t := 88) (pl := [(0, 1), (1, 132)]) (N := 133) (by kernel_rfl) rfl [.int .i64 k, .agg (blkC b).toArray] (by simp [Value.cells, bok_cells hb]) (by simp [Value.cells, bok_cells hb]) w
  simpa [Value.cells, wrC] using h
theorem lit_wr (k : Int) (b : List Sec) (hb : BOk b) (w : World) : (Instr.buildSlice 44 1 #[(0, .agg (wrC (k, b)).toArray)]).run Try.prog w = .ok (.slice (some ⟨w.heap.size, 0, none⟩) 1 1) (w.alloc (.cells (wrC (k, b)).toArray 88)) := by
  have h := run_buildRows tiW [wrC (k, b)] (by simpa using wrC_length _ hb) (by simp) (by simp) w
  simpa using h
set_option maxHeartbeats 4000000 in
set_option maxRecDepth 100000 in
theorem putC_any (d : Dev) (k : Int) (b : List Sec) (hb : BOk b) (base t kn bn : Nat) (w : World) (hd1 : d.pages.length ≤ 1000000) (hd2 : d.cache.length ≤ 1000000) (hz1 : -1 ≤ d.fuse) (hz2 : d.fuse ≤ 10000) (HT : TurnO base w t d) (HN : Blk w kn 3 [.int .i64 k]) (HB : Blk w bn 64 (blkC b)) (hkn : kn < base) (hbn : bn < base) :
    Calls Try.prog 87 #[.pointer (some ⟨t, 0, none⟩), .pointer (some ⟨kn, 0, none⟩), .pointer (some ⟨bn, 0, none⟩)] w fun e w' => e = .returned (.int .i64 (putP d k b).1) ∧ TurnO base w' t (putP d k b).2 ∧ Below base w w' := by
  obtain ⟨P, l, z, q⟩ := d
  obtain ⟨p, c, hbt, H1, HP, HC⟩ := HT
  obtain ⟨px, pc, rfl, hpl, hpc⟩ := (ownSl HP).shape
  obtain ⟨cx, cc, rfl, hcl, hcc⟩ := (ownSl HC).shape
  have HT1 := Lib.hid H1
  have HP := Lib.hid HP
  have HC := Lib.hid HC
  have HKN := Lib.hid HN
  have HBN := Lib.hid HB
  have hlt := H1.lt
  have hbw : base ≤ w.heap.size := by omega
  obtain ⟨r, hr⟩ : ∃ r, putP ⟨P, l, z, q⟩ k b = r := ⟨_, rfl⟩
  rw [hr]
  have HR := Lib.hid hr
  have HD1 := Lib.hid hd1
  have HD2 := Lib.hid hd2
  have HZ := Lib.hid (And.intro hz1 hz2)
  have HBO := Lib.hid hb
  clear H1 hr HN HB hd1 hd2 hz1 hz2 hpl hpc hcl hcc hb
  dsimp only at HT1 HP HC HD1 HD2 HZ
  have HB := Lib.hid (Below.refl w.heap.size w)
  go_enter Try.func87, Try.ntmps87
  go_upto_region 2 with (fail)
  obtain ⟨tb, htb⟩ : ∃ r, thereB P.length k = r := ⟨_, rfl⟩
  have HTB := Lib.hid htb
  clear htb
  refine Agg.chainR 8 (by kernel_rfl) (by kernel_rfl) ?_
  simp only [List.take_succ_cons, List.take_zero, List.drop_succ_cons, List.drop_zero]
  refine Agg.chMove rfl rfl rfl rfl ?_
  refine Agg.chNil rfl rfl rfl rfl ?_
  refine Agg.chFA fo_fo_Tu_0 rfl rfl rfl rfl ?_
  refine Agg.chRowB 4 HT1.out rfl (by decide +kernel) rfl rfl rfl rfl ?_
  refine Agg.chLoadB HKN.out (by decide +kernel) rfl rfl (by rfl) rfl rfl ?_
  refine Agg.chCall Try.func57 rfl (by kernel_rfl) rfl rfl rfl rfl (fun W hb => there_any px cx P.length pc l.length cc z q k W (by have := HD1.out; omega) tb HTB.out) ?_
  refine Agg.chNot rfl rfl rfl rfl ?_
  refine Agg.chAssign rfl rfl rfl rfl ?_
  refine Agg.chEnd ?_
  intro vs w1 hb _
  refine Agg.wpNil ?_
  simp only [List.reverse, List.reverseAux, Agg.fill, List.set_cons_succ, List.set_cons_zero]
  replace HB := Lib.hid (HB.out.trans (hb.mono HB.out.size))
  replace HT1 := Lib.hid (HT1.out.keep hb)
  replace HP := Lib.hid (HP.out.keep hb)
  replace HC := Lib.hid (HC.out.keep hb)
  replace HKN := Lib.hid (HKN.out.keep hb)
  replace HBN := Lib.hid (HBN.out.keep hb)
  clear hb
  cases tb
  · have hr := HR.out
    rw [putP, if_pos HTB.out] at hr
    subst hr
    go_wp2_with fail
    go_ret
    exact ⟨rfl, ⟨_, _, hbt, HT1.out, HP.out, HC.out⟩, HB.out.mono hbw⟩
  · rw [show (!true) = false from rfl]
    obtain ⟨f, hf⟩ : ∃ f, burnF z q = f := ⟨_, rfl⟩
    obtain ⟨f, o⟩ := f
    have hr := HR.out
    rw [putP, if_neg (by rw [HTB.out]; decide)] at hr
    simp only [burnD, hf] at hr
    have HF := Lib.hid hf
    clear hf HR
    go_wp2_with fail
    refine (burns_any px cx P.length pc l.length cc z q _ t w1 HZ.out.1 HZ.out.2 HT1.out f o HF.out).mono ?_
    rintro e w2 ⟨rfl, hT2, hg2⟩
    have HP2 := Lib.hid (HP.out.kept hg2 (own_apart HP.out HT1.out bTne))
    have HC2 := Lib.hid (HC.out.kept hg2 (own_apart HC.out HT1.out wTne))
    have HKN2 := Lib.hid (HKN.out.far' hg2 (by omega))
    have HBN2 := Lib.hid (HBN.out.far' hg2 (by omega))
    have HB2 := Lib.hid ((HB.out.mono hbw).trans (grown_below hg2 (by have := HB.out.size; omega) (fun j hj => (by cases hj; exact hbt))))
    have HT2 := Lib.hid hT2
    clear hg2 hT2 HT1 HP HC HKN HBN HB
    cases o
    · rw [show (!false) = true from rfl]
      rw [if_neg (by decide)] at hr
      subst hr
      go_upto_region 6 with (fail)
      refine Agg.chainR 10 (by kernel_rfl) (by kernel_rfl) ?_
      simp only [List.take_succ_cons, List.take_zero, List.drop_succ_cons, List.drop_zero]
      refine Agg.chMove rfl rfl rfl rfl ?_
      refine Agg.chMove rfl rfl rfl rfl ?_
      refine Agg.chNil rfl rfl rfl rfl ?_
      refine Agg.chFA fo_fo_Tu_0 rfl rfl rfl rfl ?_
      refine Agg.chFA fo_fo_Dev_1 rfl rfl rfl rfl ?_
      refine Agg.chLoadB HT2.out (by decide +kernel) rfl rfl (by rfl) rfl rfl ?_
      refine Agg.chLoadB HKN2.out (by decide +kernel) rfl rfl (by rfl) rfl rfl ?_
      refine Agg.chRowB 132 HBN2.out (bok_cells HBO.out) (by decide +kernel) rfl rfl rfl rfl ?_
      refine Agg.chBuild (v := .agg (wrC (k, b)).toArray) rfl rfl rfl rfl (fun W => build_wr k b HBO.out W) ?_
      refine Agg.chBuildSlice (e := 88) (wrC (k, b)).toArray rfl rfl rfl rfl (fun W => lit_wr k b HBO.out W) ?_
      refine Agg.chEnd ?_
      intro vs w21 hb hf
      simp only [List.reverse, List.reverseAux, Agg.Facts] at hf
      obtain ⟨⟨g9, hv9, hb9, hk9⟩, _⟩ := hf
      simp only [List.reverse, List.reverseAux, Agg.fill, List.set_cons_succ, List.set_cons_zero, hv9]
      clear hv9
      have hT3 := HT2.out.keep hb
      have HP3 := Lib.hid (HP2.out.keep hb)
      have hC3 := HC2.out.keep hb
      have hsl : SlR w21 (.slice (some ⟨g9, 0, none⟩) 1 1) 133 1 (wrC (k, b)) := NewSl.sl (b0 := w2.heap.size) (e := 88) ⟨g9, rfl, hb9, hk9⟩ (wrC_length _ HBO.out) (by unfold maxLen; decide)
      have HB3 := Lib.hid (HB2.out.trans (hb.mono (Nat.le_trans hbw HB2.out.size)))
      clear hb9 hk9 hb HP2 HC2 HKN2 HBN2 HT2 HB2
      refine Agg.append tiW (.tmp 25) (.tmp 29) rfl rfl base (v := .slice cx l.length cc) rfl hC3 rfl hsl (wrC_one _) (by have := HD2.out; unfold maxLen; omega) (by have := HD2.out; omega) (by have := HB3.out.size; omega) ?_
      intro v' w4 hC4 hg4 _
      simp only [Act.put, List.setIfInBounds_toArray, List.set_cons_succ, List.set_cons_zero]
      have hne := own_apart hC3 hT3 wTne
      have hT4 := blk_row hT3 hg4 hne
      have hP4 := HP3.out.kept hg4 (elem_apart HP3.out hC3 bWne)
      have hB4 := HB3.out.trans (grown_below hg4 (by have := HB3.out.size; omega) (own_block hC3))
      obtain ⟨vx, vc, rfl, _, _⟩ := (ownSl hC4).shape
      have HC4 := Lib.hid hC4
      have HP4 := Lib.hid hP4
      have HB4 := Lib.hid hB4
      have HT4 := Lib.hid hT4
      clear hsl hg4 hC3 hC4 hP4 hB4 HP3 HB3 hT3 hne
      go_wp2_with (refine Agg.gStoreCell 1 (.slice vx (l.length + 1) vc) hT4 rfl rfl rfl rfl rfl (by kernel_rfl) rfl (by simp) rfl (fun w13 hb13 hg13 => ?_); clear hT4)
      refine Agg.noP ?_
      have hP13 := HP4.out.kept hg13 (own_apart HP4.out HT4.out bTne)
      have hC13 := HC4.out.kept hg13 (own_apart HC4.out HT4.out wTne)
      have hB13 := HB4.out.trans (grown_below hg13 (Nat.le_trans hbw (Nat.le_trans (by have := HB4.out.size; omega) (Nat.le_refl _))) (fun j hj => (by cases hj; exact hbt)))
      clear hg13 HP4 HC4 HB4 HT4
      have h13 : spliced [Value.slice px P.length pc, Value.slice cx l.length cc, Value.int IntKind.i64 f, Value.bool false] 1 [Value.slice vx (l.length + 1) vc] = [Value.slice px P.length pc, Value.slice vx (l.length + 1) vc, Value.int IntKind.i64 f, Value.bool false] := by simp [spliced]
      rw [h13] at hb13
      clear h13
      go_wp2_with fail
      go_ret
      refine ⟨rfl, ⟨_, _, hbt, hb13, hP13, ?_⟩, hB13⟩
      simpa [wrC] using hC13
    · rw [show (!true) = false from rfl]
      rw [if_pos rfl] at hr
      subst hr
      go_wp2_with fail
      go_ret
      exact ⟨rfl, ⟨_, _, hbt, HT2.out, HP2.out, HC2.out⟩, HB2.out⟩
end Go.Proofs.Ytgfmpkcgkjpgnaa
end
section
/-
  DEVICES: Flush's closure.
-/
namespace Go.Proofs.Ytgfmpkcgkjpgnaa
open Go.ChangeShapes Go.WideShapes Go.ChangeAt Go.RowKit Agg Pg Dv

theorem settle_length (P : List (List Sec)) (x : Int × List Sec) (m : Int) : (settle P x m).length = P.length := by simp [settle]
theorem zero_bok : BOk zeroB := zeroB_bok
theorem getD_bok {P : List (List Sec)} (hP : ∀ b ∈ P, BOk b) (k : Nat) : BOk (P.getD k zeroB) := by
  rw [List.getD_eq_getElem?_getD]
  cases h : P[k]? with
  | none => exact zeroB_bok
  | some b => exact hP b (List.mem_of_getElem? h)
theorem settle_bok {P : List (List Sec)} (hP : ∀ b ∈ P, BOk b) {x : Int × List Sec} (hx : BOk x.2) (m : Int) : ∀ b ∈ settle P x m, BOk b := by
  unfold settle
  exact set_bok hP _ (by rw [← mixTo_all]; exact mixTo_bok (getD_bok hP _) hx m 4)
theorem settleAll_take (P : List (List Sec)) (l : List (Int × List Sec)) (k : Nat) (h : k < l.length) : settleAll P (l.take (k + 1)) = settle (settleAll P (l.take k)) l[k] 15 := by
  unfold settleAll
  rw [List.take_succ_eq_append_getElem h, List.foldl_append]; rfl
theorem settleAll_ok {P : List (List Sec)} (hP : ∀ b ∈ P, BOk b) (l : List (Int × List Sec)) (hl : ∀ x ∈ l, BOk x.2) : (settleAll P l).length = P.length ∧ ∀ b ∈ settleAll P l, BOk b := by
  unfold settleAll
  induction l generalizing P with
  | nil => exact ⟨rfl, hP⟩
  | cons x r ih =>
    rw [List.foldl_cons]
    have := ih (settle_bok hP (hl x (by simp)) 15) (fun y hy => hl y (by simp [hy]))
    exact ⟨by rw [this.1, settle_length], this.2⟩
theorem blk_ne {w : World} {t g : Nat} {T E : TypeId} {cs ds : List Value} (h : Blk w t T cs) (h2 : Blk w g E ds) (hne : T ≠ E) : t ≠ g := by
  intro e
  subst e
  unfold Blk at h h2
  rw [h] at h2
  cases h2
  exact hne rfl
theorem there_nat {n : Nat} {k : Int} (h : thereB n k = true) : ∃ p : Nat, k = p ∧ p < n := by
  unfold thereB at h
  simp only [Bool.and_eq_true, decide_eq_true_eq] at h
  exact ⟨k.toNat, by omega, by omega⟩
set_option maxHeartbeats 4000000 in
set_option maxRecDepth 100000 in
theorem flushC_any (d : Dev) (base t : Nat) (w : World) (hd0 : 1 ≤ d.pages.length) (hd1 : d.pages.length ≤ 1000000) (hd2 : d.cache.length ≤ 1000000) (hz1 : -1 ≤ d.fuse) (hz2 : d.fuse ≤ 10000) (hP : ∀ b ∈ d.pages, BOk b) (hC : ∀ x ∈ d.cache, BOk x.2) (hin : ∀ x ∈ d.cache, thereB d.pages.length x.1 = true) (HT : TurnO base w t d) :
    Calls Try.prog 60 #[.pointer (some ⟨t, 0, none⟩)] w fun e w' => e = .returned (.int .i64 (flushP d).1) ∧ TurnO base w' t (flushP d).2 ∧ Below base w w' := by
  obtain ⟨P, l, z, q⟩ := d
  obtain ⟨p, c, hbt, H1, HP, HC⟩ := HT
  dsimp only at *
  obtain ⟨g, o', pc, rfl, hpl, hpc, _, hgl⟩ := SlR.pos (ownSl HP) (by decide) hd0
  obtain ⟨cx, cc, rfl, hcl, hcc⟩ := (ownSl HC).shape
  obtain rfl : o' = 0 := by
    rcases HP.2 with ⟨h, _⟩ | ⟨g', cap', cur, h, _⟩
    · cases h
    · cases h; rfl
  have HT1 := Lib.hid H1
  have HPO := Lib.hid HP
  have HC1 := Lib.hid HC
  have hlt := H1.lt
  have hbw : base ≤ w.heap.size := by omega
  obtain ⟨r, hr⟩ : ∃ r, flushP ⟨P, l, z, q⟩ = r := ⟨_, rfl⟩
  rw [hr]
  obtain ⟨f, hf⟩ : ∃ f, burnF z q = f := ⟨_, rfl⟩
  obtain ⟨f, o⟩ := f
  simp only [flushP, burnD, hf] at hr
  have HF := Lib.hid hf
  have HD1 := Lib.hid hd1
  have HD2 := Lib.hid hd2
  have HZ := Lib.hid (And.intro hz1 hz2)
  have HPB := Lib.hid hP
  have HCB := Lib.hid hC
  have HIN := Lib.hid hin
  have HW : Hid (∀ x ∈ l, (wrC x).length = 133) := Lib.hid (fun x hx => wrC_length x (hC x hx))
  have HPN : Hid ((P.length : Int) ≤ 1000000) := Lib.hid (by omega)
  clear H1 hf HP HC hd1 hd2 hz1 hz2 hpl hP hC hin hpc hcc
  have HB := Lib.hid (Below.refl w.heap.size w)
  go_enter Try.func60, Try.ntmps60
  go_wp2_with fail
  refine (burns_any (some ⟨g, 0, none⟩) cx P.length pc l.length cc z q _ t w HZ.out.1 HZ.out.2 HT1.out f o HF.out).mono ?_
  rintro e w2 ⟨rfl, hT2, hg2⟩
  have HP2 := Lib.hid (HPO.out.kept hg2 (own_apart HPO.out HT1.out bTne))
  have HC2 := Lib.hid (HC1.out.kept hg2 (own_apart HC1.out HT1.out wTne))
  have HB2 := Lib.hid (grown_below hg2 hbw (fun j hj => (by cases hj; exact hbt)))
  have HT2 := Lib.hid hT2
  clear hg2 hT2 HT1 HPO HC1 HB
  cases o
  · rw [show (!false) = true from rfl]
    rw [if_neg (by decide)] at hr
    subst hr
    have xHT2_0 := HT2.out.cell 0
    have xHT2_1 := HT2.out.cell 1
    have xHT2_2 := HT2.out.cell 2
    have xHT2_3 := HT2.out.cell 3
    have lHT2 := HT2.out.lt
    simp only [List.getElem?_cons_zero, List.getElem?_cons_succ] at xHT2_0 xHT2_1 xHT2_2 xHT2_3
    go_wp2_with fail
    clear xHT2_0 xHT2_1 xHT2_2 xHT2_3 lHT2
    obtain ⟨r, hk0, hbg, hpc1, hpc2, hrl⟩ := own_blk HP2.out
    have HRL := Lib.hid (And.intro hbg (And.intro hpc1 (And.intro hpc2 hrl)))
    have HK0 := Lib.hid hk0
    have HG0 := Lib.hid (blk_ne HT2.out hk0 (Ne.symm bTne))
    clear hk0 hbg hpc1 hpc2 hrl
    go_loopw [14, 4] (fun i v wr => ∃ k : Nat, k ≤ l.length ∧ i = .int .i64 k ∧ Below base w wr ∧ Blk wr t 114 [.slice (some ⟨g, 0, none⟩) P.length pc, .slice cx l.length cc, .int .i64 f, .bool false] ∧ Blk wr g 64 ((settleAll P (l.take k)).flatMap blkC ++ r) ∧ wr.ownsRow base 88 133 (.slice cx l.length cc) l.length (l.flatMap wrC)) (fun i _ _ => l.length - (intOf i).toNat)
    case atStart => exact ⟨0, by omega, rfl, HB2.out, HT2.out, HK0.out, HC2.out⟩
    case round =>
      obtain ⟨k, hk, rfl, hb, h1, h2, h3⟩ := hrel
      replace HB2 := Lib.hid hb
      replace HT2 := Lib.hid h1
      have HG := Lib.hid h2
      replace HC2 := Lib.hid h3
      have HSO := Lib.hid (settleAll_ok HPB.out (l.take k) (fun x hx => HCB.out x (List.mem_of_mem_take hx)))
      clear hb h1 h2 h3
      obtain ⟨wA, hwA⟩ : ∃ x, x = wr := ⟨_, rfl⟩
      subst hwA
      have hk6 : k ≤ 1000000 := by have := HD2.out; omega
      by_cases hlt2 : k < l.length
      · obtain ⟨b, o', cap', hve, _, _, _, _⟩ := SlR.pos (ownSl HC2.out) (by decide) (by omega)
        simp only [Value.slice.injEq, true_and] at hve
        obtain ⟨rfl, rfl⟩ := hve
        have hcs := flat_at wrC 133 (by decide) (ownSl HC2.out) HW.out hlt2
        have HS := Lib.hid (settleAll_take P l k hlt2)
        have h133 := HW.out _ (List.getElem_mem hlt2)
        have h1 := wrC_one l[k]
        have HBO := Lib.hid (HCB.out _ (List.getElem_mem hlt2))
        have HTH := Lib.hid (HIN.out _ (List.getElem_mem hlt2))
        generalize l[k] = s at *
        generalize settleAll P (l.take k) = Q at *
        go_upto_region 6 with (first
          | (refine Agg.gLoad 133 (wrC s) rfl rfl rfl (by decide +kernel) h133 hcs ?_; simp only [Act.put, List.setIfInBounds_toArray, List.set_cons_succ, List.set_cons_zero])
          | (refine Agg.allocRow 88 wr0.toArray rfl rfl (by kernel_rfl) ?_; simp only [Act.put, List.setIfInBounds_toArray, List.set_cons_succ, List.set_cons_zero])
          | (refine Agg.gStoreNew 133 (wrC s) rfl rfl rfl rfl rfl rfl (by decide +kernel) h133 wr0_size h1 ?_; simp only [Act.put]))
        have hbx := Blk.new wA 88 (wrC s).toArray
        clear hcs h1
        go_wp2_with (refine Agg.gLoadB 133 hbx h133 rfl rfl rfl (by decide +kernel) ?_; simp only [Act.put, List.setIfInBounds_toArray, List.set_cons_succ, List.set_cons_zero])
        obtain ⟨p, hp1, hp2⟩ := there_nat HTH.out
        have hT : Blk (wA.alloc (.cells (wrC s).toArray 88)) t 114 [.slice (some ⟨g, 0, none⟩) Q.length pc, .slice (some ⟨b, o', none⟩) l.length cc, .int .i64 f, .bool false] := by rw [HSO.out.1]; exact HT2.out.al _
        refine (settles_any Q r s.1 s.2 p hp1 (by rw [HSO.out.1]; exact hp2) HSO.out.2 HBO.out 15 _ _ t g pc _ _ _ _ hT (HG.out.al _) HG0.out (by rw [HSO.out.1]; exact HPN.out)).mono ?_
        rintro e w5 ⟨⟨v, rfl⟩, hG5, hg5⟩
        have hbA : base ≤ wA.heap.size := Nat.le_trans hbw HB2.out.size
        have hT5 := (HT2.out.al (.cells (wrC s).toArray 88)).far' hg5 HG0.out
        have hC5 := (own_keep HC2.out ((Below.refl _ wA).alloc (Nat.le_refl _) (.cells (wrC s).toArray 88))).kept hg5 (own_apart (own_keep HC2.out ((Below.refl _ wA).alloc (Nat.le_refl _) (.cells (wrC s).toArray 88))) (HG.out.al _) (Ne.symm bWne))
        have hB5 := (HB2.out.alloc hbA (.cells (wrC s).toArray 88)).trans (grown_below hg5 (by rw [World.size_alloc]; exact Nat.le_succ_of_le hbA) (fun j hj => (by cases hj; exact HRL.out.1)))
        have hS5 : settle Q s 15 = Q.set p (mixB (Q[p]'(by rw [HSO.out.1]; exact hp2)) s.2 15) := by
          unfold settle
          rw [hp1, Int.toNat_natCast, List.getD_eq_getElem?_getD, List.getElem?_eq_getElem (by rw [HSO.out.1]; exact hp2)]; rfl
        rw [← hS5] at hG5
        have HG5 := Lib.hid hG5
        have HT5 := Lib.hid hT5
        have HC5 := Lib.hid hC5
        have HB5 := Lib.hid hB5
        clear hG5 hT5 hC5 hB5 hS5 hg5 hT hbx h133 hp1 hp2 hbA
        go_wp2_with fail
        go_roundw
        case rel => exact ⟨k + 1, by omega, by go_num, HB5.out, HT5.out, by rw [HS.out]; exact HG5.out, HC5.out⟩
        case measure => simp [intOf]; omega
      · obtain rfl : k = l.length := by omega
        have hgk := HG.out
        rw [List.take_length] at hgk HSO
        have hT6 := HT2.out
        have HT7 := Lib.hid hT6
        have HG6 := Lib.hid hgk
        clear hgk HT2 HG
        go_wp2_with (refine Agg.gStoreCell 1 (.slice none 0 0) hT6 rfl rfl rfl rfl rfl (by kernel_rfl) rfl (by simp) rfl (fun w13 hb13 hg13 => ?_); clear hT6)
        go_ret
        have hC7 := HC2.out.kept hg13 (own_apart HC2.out HT7.out wTne)
        have hG7 := HG6.out.far' hg13 (Ne.symm HG0.out)
        have hB7 := HB2.out.trans (grown_below hg13 (Nat.le_trans hbw HB2.out.size) (fun j hj => (by cases hj; exact hbt)))
        have hO := blk_own hG7 HRL.out.1 HRL.out.2.1 HRL.out.2.2.1 (sz := 132) (n := P.length) (by rw [List.length_append, flat_len blkC 132 _ (fun b hb => bok_cells (HSO.out.2 b hb)), HSO.out.1, ← flat_len blkC 132 P (fun b hb => bok_cells (HPB.out b hb)), ← List.length_append]; exact HRL.out.2.2.2) (by rw [flat_len blkC 132 _ (fun b hb => bok_cells (HSO.out.2 b hb)), HSO.out.1])
        refine ⟨rfl, ⟨_, _, hbt, hb13, ?_, World.ownsRow_nil _ _ _ _⟩, hB7⟩
        show w13.ownsRow base _ 132 _ (settleAll P l).length _
        rw [HSO.out.1]
        exact hO
  · rw [show (!true) = false from rfl]
    rw [if_pos rfl] at hr
    subst hr
    go_wp2_with fail
    go_ret
    exact ⟨rfl, ⟨_, _, hbt, HT2.out, HP2.out, HC2.out⟩, HB2.out⟩
end Go.Proofs.Ytgfmpkcgkjpgnaa
end
