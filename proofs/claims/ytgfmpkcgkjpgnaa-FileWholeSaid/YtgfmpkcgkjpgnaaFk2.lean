/-
  FILES: a device that has its power.
-/
import Derived.Test.YtgfmpkcgkjpgnaaFiZ
import Derived.Test.YtgfmpkcgkjpgnaaFpPgE
import Derived.Test.YtgfmpkcgkjpgnaaFiS
section
namespace Go.Proofs.Ytgfmpkcgkjpgnaa
open Go.ChangeShapes Go.WideShapes Go.ChangeAt Go.RowKit Agg Pg Dv Fi
attribute [local go_sem] Oper.semAt_some

/-- a disk with its power on, no fuse lit, nothing that waits -/
def powX (x : DiskD) : DiskD := { x with cache := [], fuse := -1, off := false }
theorem powX_ok {x : DiskD} (h : DiskOk x) : DiskOk (powX x) := ⟨h.held, (by intro p hp; cases hp), (by intro p hp; cases hp)⟩
/-- .. its stamps are small -/
def powB (x : DiskD) : Bool := rightD (diskD (powX x)) && decide ((grB (diskD (powX x)).pages : Int) < 4611686018427386904)

set_option maxHeartbeats 8000000 in
set_option maxRecDepth 100000 in
theorem powered_any (x : DiskD) (fv hv cv : Value) (hx : DiskOk x) (w : World) (hf : Files w fv x.files) (hh : PgsD w hv x.held) :
    Calls Try.prog 28 #[.agg (diskC x fv hv cv).toArray] w fun e w' => ∃ v, e = .returned (.tuple #[v, .int .u64 (grB (diskD (powX x)).pages : Int), .bool (powB x)]) ∧ DevO w.heap.size w' v (diskD (powX x)) ∧ Below w.heap.size w w' := by
  obtain ⟨fx, fc, rfl, _, _⟩ := hf.1.shape
  obtain ⟨hx1, hc1, rfl, _, _⟩ := hh.shape
  have HDK := Lib.hid (fun W (hW : Below w.heap.size w W) => disk_any (powX x) _ _ (.slice none 0 0) (powX_ok hx) W (hf.keep hW) (SlR.keep hh hW) (SlR.nil W 6))
  have hdg := diskD_good (powX_ok hx)
  have hpb : powB x = (rightD (diskD (powX x)) && decide ((grB (diskD (powX x)).pages : Int) < 4611686018427386904)) := rfl
  have hpc : (diskC (powX x) (.slice fx x.files.length fc) (.slice hx1 x.held.length hc1) (.slice none 0 0)) = [.int .i64 x.n, .slice fx x.files.length fc, .slice hx1 x.held.length hc1, .slice none 0 0, .int .i64 (-1), .bool false] := rfl
  rw [hpb]
  rw [hpc] at HDK
  clear hpb hpc
  obtain ⟨D, hD⟩ : ∃ D, diskD (powX x) = D := ⟨_, rfl⟩
  obtain ⟨S, hS⟩ : ∃ S, diskS (powX x) = S := ⟨_, rfl⟩
  rw [hD, hS] at HDK
  rw [hD] at hdg ⊢
  have HDG := Lib.hid hdg
  have HGR := Lib.hid (fun W v hv => great_any D.pages HDG.out.pages v W hv)
  have HCK := Lib.hid (fun W v hv => check_R (w := W) (v := v) (d := D) HDG.out hv)
  obtain ⟨g, hg⟩ : ∃ g, grB D.pages = g := ⟨_, rfl⟩
  obtain ⟨r, hr⟩ : ∃ r, rightD D = r := ⟨_, rfl⟩
  rw [hg] at HGR ⊢
  rw [hr] at HCK ⊢
  clear hf hh hx hD hS hdg hg hr HDG
  have HB := Lib.hid (Below.refl w.heap.size w)
  go_enter Try.func28, Try.ntmps28
  go_upto_region 1 with (fail)
  refine Agg.wp_at fun w1 hw1 => ?_
  have hb : Below w.heap.size w w1 := by rw [hw1.out]; repeat (first | exact Below.refl _ _ | refine Agg.bel_drew ?_ | refine Agg.bel_alloc ?_ _)
  replace HB := Lib.hid (HB.out.trans (hb.mono HB.out.size))
  clear hb
  have H1 : Hid (Blk w1 w.heap.size 38 [.int .i64 x.n, .slice fx x.files.length fc, .slice hx1 x.held.length hc1, cv, .int .i64 x.fuse, .bool x.off]) := by show Blk _ _ _ _; rw [hw1.out]; exact (Blk.new w 38 (diskC x (.slice fx x.files.length fc) (.slice hx1 x.held.length hc1) cv).toArray).al _
  have H2 : Hid (Blk w1 (w.heap.size + 1) 46 [.slice none 0 0, .slice none 0 0, .int .i64 0, .bool false]) := by show Blk _ _ _ _; rw [hw1.out]; exact Blk.newAt (w.alloc _) 46 #[.slice none 0 0, .slice none 0 0, .int .i64 0, .bool false] _ (by simp)
  clear hw1
  have h1 := H1.out
  have h2 := H2.out
  have hb0 := HB.out
  have hsz := hb0.size
  clear H1 H2 HB
  go_upto_region 2 with (first
    | (refine Agg.gStoreCell 5 (.bool false) h1 rfl rfl rfl rfl rfl (by kernel_rfl) rfl (by simp) rfl (fun w12 hb12 hg12 => ?_); clear h1)
    | (refine Agg.gStoreCell 4 (.int .i64 (-1)) hb12 rfl rfl rfl rfl rfl (by kernel_rfl) rfl (by simp [spliced]) rfl (fun w13 hb13 hg13 => ?_); clear hb12)
    | (refine Agg.gStoreCell 3 (.slice none 0 0) hb13 rfl rfl rfl rfl rfl (by kernel_rfl) rfl (by simp [spliced]) rfl (fun w14 hb14 hg14 => ?_); clear hb13))
  have q2 := ((h2.far' hg12 (by omega)).far' hg13 (by omega)).far' hg14 (by omega)
  have hb1 := hb0.trans (grown_below hg12 hsz (fun j hj => (by cases hj; omega)))
  have hb2 := hb1.trans (grown_below hg13 hb1.size (fun j hj => (by cases hj; omega)))
  have hb3 := hb2.trans (grown_below hg14 hb2.size (fun j hj => (by cases hj; omega)))
  have HB := Lib.hid hb3
  have e13 : spliced (spliced (spliced [.int .i64 x.n, .slice fx x.files.length fc, .slice hx1 x.held.length hc1, cv, .int .i64 x.fuse, .bool x.off] 5 [.bool false]) 4 [.int .i64 (-1)]) 3 [.slice none 0 0] = [.int .i64 x.n, .slice fx x.files.length fc, .slice hx1 x.held.length hc1, .slice none 0 0, .int .i64 (-1), .bool false] := by simp [spliced]
  rw [e13] at hb14
  have H1 := Lib.hid hb14
  have H2 := Lib.hid q2
  clear e13 hg12 hg13 hg14 hb0 hb1 hb2 hb3 hb14 q2 h2 hsz
  have h1 := H1.out
  go_wp2_with (refine Agg.gLoadB 6 h1 rfl rfl rfl rfl (by decide +kernel) ?_; simp only [Act.put, List.setIfInBounds_toArray, List.set_cons_succ, List.set_cons_zero])
  clear h1
  have l2 := H2.out.lt
  refine (HDK.out w14 HB.out).mono ?_
  rintro e w31 ⟨u1, rfl, hu1, hb⟩
  replace HB := Lib.hid (HB.out.trans (hb.mono HB.out.size))
  replace H1 := Lib.hid (H1.out.keep hb)
  replace H2 := Lib.hid (H2.out.keep hb)
  clear hb
  have HO0 := Lib.hid (hu1.base (show w.heap.size + 2 ≤ _ from l2))
  obtain ⟨px, pc, qx, qc, hus⟩ := DevR.shape hu1.read
  subst hus
  have HDR := Lib.hid hu1.read
  clear hu1 l2
  obtain ⟨p9, c9, he9, ho9, _⟩ := HO0.out
  simp only [Value.agg.injEq, Array.mk.injEq, List.cons.injEq, true_and, and_true] at he9
  obtain ⟨rfl, rfl⟩ := he9
  have HPG := Lib.hid (ownSl ho9)
  clear ho9
  go_upto_region 3 with (fail)
  refine Agg.wp_at fun w32 hw32 => ?_
  have hb : Below w31.heap.size w31 w32 := by rw [hw32.out]; repeat (first | exact Below.refl _ _ | refine Agg.bel_drew ?_ | refine Agg.bel_alloc ?_ _)
  replace HB := Lib.hid (HB.out.trans (hb.mono HB.out.size))
  replace H2 := Lib.hid (H2.out.keep hb)
  replace HO0 := Lib.hid (HO0.out.keep hb)
  replace HDR := Lib.hid (HDR.out.keep hb)
  replace HPG := Lib.hid (HPG.out.keep hb)
  clear hb
  have H5 : Hid (Blk w32 w31.heap.size 46 [.slice px D.pages.length pc, .slice qx D.cache.length qc, .int .i64 D.fuse, .bool D.off]) := by show Blk _ _ _ _; rw [hw32.out]; exact Blk.new w31 46 #[.slice px D.pages.length pc, .slice qx D.cache.length qc, .int .i64 D.fuse, .bool D.off]
  clear hw32
  generalize w31.heap.size = g5 at *
  have xH5_0 := H5.out.cell 0
  have xH5_1 := H5.out.cell 1
  have xH5_2 := H5.out.cell 2
  have xH5_3 := H5.out.cell 3
  have lH5 := H5.out.lt
  simp only [List.getElem?_cons_zero, List.getElem?_cons_succ] at xH5_0 xH5_1 xH5_2 xH5_3
  go_wp2_with fail
  clear xH5_0 xH5_1 xH5_2 xH5_3 lH5
  refine (HGR.out w32 _ HPG.out).mono ?_
  rintro e w33 ⟨rfl, hb⟩
  replace HB := Lib.hid (HB.out.trans (hb.mono HB.out.size))
  replace H2 := Lib.hid (H2.out.keep hb)
  replace HO0 := Lib.hid (HO0.out.keep hb)
  replace HDR := Lib.hid (HDR.out.keep hb)
  replace HPG := Lib.hid (HPG.out.keep hb)
  replace H5 := Lib.hid (H5.out.keep hb)
  clear hb
  clear HGR
  go_upto_region 4 with (fail)
  cases r
  · refine Agg.chainR 9 (by kernel_rfl) (by kernel_rfl) ?_
    simp only [List.take_succ_cons, List.take_zero, List.drop_succ_cons, List.drop_zero]
    refine Agg.chRowB 4 H5.out rfl (by decide +kernel) rfl rfl rfl rfl ?_
    refine Agg.chMove rfl rfl rfl rfl ?_
    refine Agg.chRowB 4 H5.out rfl (by decide +kernel) rfl rfl rfl rfl ?_
    refine Agg.chCall Try.func56 rfl (by kernel_rfl) rfl rfl rfl rfl (fun W hb => HCK.out W _ (HDR.out.keep hb)) ?_
    refine Agg.chEq false (by simp) rfl rfl rfl rfl rfl ?_
    refine Agg.chMove rfl rfl rfl rfl ?_
    refine Agg.chSkip rfl rfl ?_
    refine Agg.chSkip rfl rfl ?_
    refine Agg.chPick rfl rfl rfl rfl rfl ?_
    refine Agg.chEnd ?_
    intro vs w34 hb hf
    simp only [List.reverse, List.reverseAux, Agg.Facts] at hf
    obtain _ := hf
    simp only [List.reverse, List.reverseAux, Agg.fill, List.set_cons_succ, List.set_cons_zero]
    refine Agg.tStore 4 (H2.out.keep hb) rfl rfl rfl rfl rfl (by decide +kernel) rfl rfl (by simp [Value.oneCell']) (fun w94 hb94 hg94 => ?_)
    replace HB := Lib.hid (HB.out.trans (hb.mono HB.out.size))
    replace HO0 := Lib.hid (HO0.out.keep hb)
    refine Agg.tAssign rfl rfl rfl ?_
    simp only [Agg.ev, List.getD_cons_zero, List.getD_cons_succ, List.set_cons_succ, List.set_cons_zero]
    refine Agg.tAssign rfl rfl rfl ?_
    simp only [Agg.ev, List.getD_cons_zero, List.getD_cons_succ, List.set_cons_succ, List.set_cons_zero]
    refine Agg.wpNil ?_
    go_wp2_with fail
    have hsz := HB.out.size
    obtain ⟨p8, c8, he8, ho8, ho10⟩ := HO0.out
    simp only [Value.agg.injEq, Array.mk.injEq, List.cons.injEq, true_and, and_true] at he8
    obtain ⟨rfl, rfl⟩ := he8
    have k1 := own_base (ho8.kept hg94 (.inr (fun e => by have := own_block ho8 _ e; omega))) (show w.heap.size ≤ w.heap.size + 2 by omega)
    have k2 := own_base (ho10.kept hg94 (.inr (fun e => by have := own_block ho10 _ e; omega))) (show w.heap.size ≤ w.heap.size + 2 by omega)
    refine bodyPost_ret (results_row3 (m := 4) rfl hb94 rfl (by decide +kernel) rfl) rfl ⟨_, rfl, ⟨_, _, rfl, k1, k2⟩, ?_⟩
    exact HB.out.trans (grown_below hg94 hsz (fun j hj => (by cases hj; omega)))
  · skip
    refine Agg.chainR 9 (by kernel_rfl) (by kernel_rfl) ?_
    simp only [List.take_succ_cons, List.take_zero, List.drop_succ_cons, List.drop_zero]
    refine Agg.chRowB 4 H5.out rfl (by decide +kernel) rfl rfl rfl rfl ?_
    refine Agg.chMove rfl rfl rfl rfl ?_
    refine Agg.chRowB 4 H5.out rfl (by decide +kernel) rfl rfl rfl rfl ?_
    refine Agg.chCall Try.func56 rfl (by kernel_rfl) rfl rfl rfl rfl (fun W hb => HCK.out W _ (HDR.out.keep hb)) ?_
    refine Agg.chEq true (by simp) rfl rfl rfl rfl rfl ?_
    refine Agg.chMove rfl rfl rfl rfl ?_
    refine Agg.chMove rfl rfl rfl rfl ?_
    refine Agg.chCmp rfl rfl rfl rfl rfl rfl ?_
    refine Agg.chPick rfl rfl rfl rfl rfl ?_
    refine Agg.chEnd ?_
    intro vs w35 hb hf
    simp only [List.reverse, List.reverseAux, Agg.Facts] at hf
    obtain _ := hf
    simp only [List.reverse, List.reverseAux, Agg.fill, List.set_cons_succ, List.set_cons_zero]
    refine Agg.tStore 4 (H2.out.keep hb) rfl rfl rfl rfl rfl (by decide +kernel) rfl rfl (by simp [Value.oneCell']) (fun w94 hb94 hg94 => ?_)
    replace HB := Lib.hid (HB.out.trans (hb.mono HB.out.size))
    replace HO0 := Lib.hid (HO0.out.keep hb)
    refine Agg.tAssign rfl rfl rfl ?_
    simp only [Agg.ev, List.getD_cons_zero, List.getD_cons_succ, List.set_cons_succ, List.set_cons_zero]
    refine Agg.tAssign rfl rfl rfl ?_
    simp only [Agg.ev, List.getD_cons_zero, List.getD_cons_succ, List.set_cons_succ, List.set_cons_zero]
    refine Agg.wpNil ?_
    go_wp2_with fail
    have hsz := HB.out.size
    obtain ⟨p8, c8, he8, ho8, ho10⟩ := HO0.out
    simp only [Value.agg.injEq, Array.mk.injEq, List.cons.injEq, true_and, and_true] at he8
    obtain ⟨rfl, rfl⟩ := he8
    have k1 := own_base (ho8.kept hg94 (.inr (fun e => by have := own_block ho8 _ e; omega))) (show w.heap.size ≤ w.heap.size + 2 by omega)
    have k2 := own_base (ho10.kept hg94 (.inr (fun e => by have := own_block ho10 _ e; omega))) (show w.heap.size ≤ w.heap.size + 2 by omega)
    refine bodyPost_ret (results_row3 (m := 4) rfl hb94 rfl (by decide +kernel) rfl) rfl ⟨_, rfl, ⟨_, _, rfl, k1, k2⟩, ?_⟩
    exact HB.out.trans (grown_below hg94 hsz (fun j hj => (by cases hj; omega)))
end Go.Proofs.Ytgfmpkcgkjpgnaa
end
section
/-
  FILES: what is put and flushed, in plain Lean.
-/
namespace Go.Proofs.Ytgfmpkcgkjpgnaa
open Go.ChangeShapes Go.WideShapes Go.ChangeAt Go.RowKit Agg Pg Dv Fi

structure BackF (D : Dev) (A : List Int) (kind : Int) (n : Nat) (B : List UInt8) (N F : Dev) : Prop where
  put : fPut D A kind n B = (0, N)
  good : DGood N
  len : N.cache.length ≤ 40
  got : fGet N A kind B.length = (B, 0)
  need : (A.length : Int) = needN B.length
  other : ∀ p : Nat, p < D.pages.length → hasB A p = false → ∃ b, BOk b ∧ readP D p = (0, b) ∧ readP N p = (0, b)
  flush : goesP N (flushP N) = (0, F)
  fgood : DGood F
  flen : F.cache.length ≤ 40
  fgot : fGet F A kind B.length = (B, 0)
theorem there_ofN {np p : Nat} (h : p < np) : thereB np (p : Int) = true := by
  simp [thereB]; omega
theorem back_facts {D : Dev} {A : List Int} {kind : Int} {n : Nat} {B : List UInt8} (hp : PowD D) (hg : DGood D) (hc : D.cache = []) (hal : A.length ≤ 20) (hn1 : 1 ≤ n) (hn2 : n + A.length ≤ 4611686018427387905) (hm : mayB A kind B.length D.pages.length = true) : BackF D A kind n B (addD D (blksF kind n B 0 A)) (flD (addD D (blksF kind n B 0 A))) := by
  obtain ⟨h1, h2⟩ := fPut_pow hp hm hn1 hn2
  have hth := may_there hm
  have hgN : DGood (addD D (blksF kind n B 0 A)) := addD_good hg (blksF_bok _ _ _ _ 0 (by omega)) (fun x hx => hth _ (blksF_key hx))
  obtain ⟨h3, h4⟩ := flush_pow h2
  have hgF : DGood (flD (addD D (blksF kind n B 0 A))) := by
    have := goesP_good hgN (flushP_good hgN)
    rw [h3] at this
    exact this
  have hlp : (flD (addD D (blksF kind n B 0 A))).pages.length = D.pages.length := settleAll_len _ _
  refine ⟨h1, hgN, ?_, put_get hp hm hn1 hn2, (mayB_facts hm).2.1, ?_, h3, hgF, by simp [flD], ?_⟩
  · show (D.cache ++ blksF kind n B 0 A).length ≤ 40
    rw [List.length_append, blksF_length, hc]
    simp; omega
  · intro p hpl hno
    have hk := there_ofN hpl
    have e1 := read_pow hp.1 hp.2.1 hk
    have e2 := read_pow h2.1 h2.2.1 (k := (p : Int)) hk
    have hna : (p : Int) ∉ A := by
      intro hin
      unfold hasB at hno
      rw [List.any_eq_false] at hno
      exact hno _ hin (by simp)
    have e3 : saysP (addD D (blksF kind n B 0 A)).pages (addD D (blksF kind n B 0 A)).cache p = saysP D.pages D.cache p := says_other kind n B hna
    rw [e3] at e2
    have hb := readP_bok hg (p : Int)
    rw [e1] at hb
    exact ⟨_, hb, e1, e2⟩
  · have e1 := fGet_pow h4 (A := A) (kind := kind) (bytes := B.length) (by rw [hlp]; exact hm)
    have e2 := fGet_pow h2 (A := A) (kind := kind) (bytes := B.length) hm
    rw [e1, ← put_get hp hm hn1 hn2, e2]
    refine gets_same A 0 0 [] (fun a ha => ?_)
    have hk := hth a ha
    rw [read_pow h4.1 h4.2.1 (k := a) (by rw [hlp]; exact hk), read_pow h2.1 h2.2.1 (k := a) hk, says_flush h2.1 hgN hk]
end Go.Proofs.Ytgfmpkcgkjpgnaa
end
