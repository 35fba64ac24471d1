/-
  THE WALK OF LAYER 20's STATEMENT FilePuts.
-/
import Derived.Test.YtgfmpkcgkjpgnaaFiY
import Derived.Test.YtgfmpkcgkjpgnaaFiZ
import Derived.Test.YtgfmpkcgkjpgnaaFiT
import Derived.Test.YtgfmpkcgkjpgnaaFiE
import Derived.Test.YtgfmpkcgkjpgnaaFiS
section
namespace Agg
open Go Go.RowKit
section
variable {n kk : Nat} {P : Program} {l rest : List Oper} {W : World} {l0 : List Value} {ds : List Deferred} {acc : List R} {o : Oper} {fin : List R → Prop}
/-- a field of something of which something is known -/
theorem chFieldO {t : TypeId} {ts k : Nat} (j : Nat) {g g' : Value → World → Prop} (hst : Stable g') (hx : ∀ v w, g v w → ∃ u, (∀ w', (Instr.field t v k).run P w' = .ok u w') ∧ g' u w) (ho : o.op = .field t (.tmp ts) k) (hd : depL o j = true) (hj : look kk acc j = some (.op g)) (ht : (l[j]?).map (·.dst) = some (some ts)) (hw : wants kk acc o = some true) (hk : gOk l o = true)
    (h : ChainR n P l.toArray W ⟨l0.toArray, ds⟩ (kk + 1) ((.op g') :: acc) rest fin) : ChainR n P l.toArray W ⟨l0.toArray, ds⟩ kk acc (o :: rest) fin :=
  chPureG (by rw [ho]; rfl) hw hk hst (fun a w hh => by
    obtain ⟨v, hv, hg⟩ := hh.op j ts hd hj ht
    obtain ⟨u, hu, hg'⟩ := hx v w hg
    exact ⟨u, hg', fun w' => by simp only [execOp, ho, hv, Sem.run_bind, hu, Result.andThen_ok, Sem.run_pure]⟩) h
end
end Agg
namespace Go.Proofs.Ytgfmpkcgkjpgnaa
open Go.ChangeShapes Go.WideShapes Go.ChangeAt Go.RowKit Agg Pg Dv Fi
attribute [local go_sem] Oper.semAt_some

theorem file_at (_b : Nat) {base : Nat} {A : List Int} {kind : Int} {B : List UInt8} (v : Value) (w : World) (h : FileO base A kind B v w) : ∃ u, (∀ w', (Instr.field 41 v 0).run Try.prog w' = .ok u w') ∧ OwnI base A u w := by
  obtain ⟨ua, ub, rfl, h1, h2⟩ := h
  obtain ⟨xa, ca, rfl, _, _⟩ := (ownSl h1).shape
  obtain ⟨xb, cb, rfl, _, _⟩ := (ownSl h2).shape
  exact ⟨_, fun w' => by kernel_rfl, h1⟩
theorem file_by (_b : Nat) {base : Nat} {A : List Int} {kind : Int} {B : List UInt8} (v : Value) (w : World) (h : FileO base A kind B v w) : ∃ u, (∀ w', (Instr.field 41 v 2).run Try.prog w' = .ok u w') ∧ OwnY base B u w := by
  obtain ⟨ua, ub, rfl, h1, h2⟩ := h
  obtain ⟨xa, ca, rfl, _, _⟩ := (ownSl h1).shape
  obtain ⟨xb, cb, rfl, _, _⟩ := (ownSl h2).shape
  exact ⟨_, fun w' => by kernel_rfl, h2⟩
theorem putsP_len {l : List (Int × List Sec)} : ∀ {d : Dev}, (putsP d l).2.cache.length ≤ d.cache.length + l.length := by
  induction l with
  | nil => intro d; exact Nat.le_refl _
  | cons x l ih =>
    intro d
    have h1 := goesP_len (d := d) (n := d.cache.length + 1) (Nat.le_succ _) (putP_len d x.1 x.2)
    rw [putsP]
    split
    · rw [List.length_cons]; omega
    · have := ih (d := (goesP d (putP d x.1 x.2)).2)
      rw [List.length_cons]; omega
theorem fPut_good {d : Dev} (h : DGood d) (A : List Int) (kind : Int) (n : Nat) (B : List UInt8) (ha : A.length ≤ 1000) : DGood (fPut d A kind n B).2 ∧ (fPut d A kind n B).2.cache.length ≤ d.cache.length + A.length := by
  unfold fPut
  split
  · exact ⟨dev0_good, by simp [dev0]⟩
  · split
    · exact ⟨h, Nat.le_add_right _ _⟩
    · split
      · exact ⟨dev0_good, by simp [dev0]⟩
      · split
        · exact ⟨dev0_good, by simp [dev0]⟩
        · rename_i hs
          split
          · exact ⟨dev0_good, by simp [dev0]⟩
          · have hs2 := (Classical.not_not.1 hs).2
            refine ⟨putsP_good (blksF_bok _ _ _ _ 0 (by omega)) h, ?_⟩
            have := putsP_len (l := blksF kind n B 0 A) (d := d)
            rwa [blksF_length] at this
set_option maxHeartbeats 8000000 in
set_option maxRecDepth 100000 in
theorem puts_walk (x : DiskD) (fv hv cv : Value) (hx : DiskOk x) (fa : List Int) (fk : Int) (fb : List UInt8) (va vb : Value) (n : Nat) (hn : n < 18446744073709551616) (w : World) (hf : Files w fv x.files) (hh : PgsD w hv x.held) (hc : PgsD w cv x.cache) (ha : Ints w va fa) (hb : Bytes w vb fb) :
    Calls Try.prog 5 #[.agg (diskC x fv hv cv).toArray, .agg #[va, .int .i64 fk, vb], .int .u64 (n : Int)] w fun e w' => e = .returned (.bool true) ∧ Below w.heap.size w w' := by
  obtain ⟨fx, fc, rfl, _, _⟩ := hf.1.shape
  obtain ⟨hx1, hc1, rfl, _, _⟩ := hh.shape
  obtain ⟨cx, cc, rfl, _, _⟩ := hc.shape
  obtain ⟨ax, ac, rfl, _, _⟩ := ha.shape
  obtain ⟨bx, bc, rfl, _, _⟩ := hb.shape
  have HDK := Lib.hid (fun W (hW : Below w.heap.size w W) => disk_any x _ _ _ hx W (hf.keep hW) (SlR.keep hh hW) (SlR.keep hc hW))
  have HOW := Lib.hid (fun W (hW : Below w.heap.size w W) => fown_any fa fk fb _ _ W (SlR.keep ha hW) (SlR.keep hb hW))
  have hdg := diskD_good hx
  have hdc : (diskD x).cache.length ≤ 20 := cacheTo_len x _
  obtain ⟨D, hD⟩ : ∃ D, diskD x = D := ⟨_, rfl⟩
  obtain ⟨S, hS⟩ : ∃ S, diskS x = S := ⟨_, rfl⟩
  obtain ⟨A2, hA2⟩ : ∃ l, fa.take 20 = l := ⟨_, rfl⟩
  obtain ⟨B2, hB2⟩ : ∃ l, fb.take 2000 = l := ⟨_, rfl⟩
  have hla : A2.length ≤ 20 := by rw [← hA2, List.length_take]; omega
  have hlb : B2.length ≤ 2000 := by rw [← hB2, List.length_take]; omega
  rw [hD, hS] at HDK
  rw [hA2, hB2] at HOW
  rw [hD] at hdg hdc
  have HDG := Lib.hid hdg
  have HDC := Lib.hid hdc
  obtain ⟨hgg, hgc⟩ := fPut_good hdg A2 fk n B2 (by omega)
  obtain ⟨g, hg⟩ : ∃ g, fPut D A2 fk n B2 = g := ⟨_, rfl⟩
  have hfp := fun W (dv av bv : Value) (h1 : DevR W dv D) (h2 : Ints W av A2) (h3 : Bytes W bv B2) => fPut_any D A2 fk n B2 dv av bv W hdg (by omega) h1 h2 h3 (by omega) (by omega) hn
  have hrp := fun W (dv av bv : Value) (h1 : DevR W dv D) (h2 : Ints W av A2) (h3 : Bytes W bv B2) => rfPut_any D A2 fk n B2 dv av bv W hdg (by omega) h1 h2 h3 (by omega) (by omega) hn
  rw [hg] at hgg hgc hfp hrp
  have HFP := Lib.hid hfp
  have HRP := Lib.hid hrp
  have HGG := Lib.hid hgg
  clear hf hh hc ha hb hx hA2 hB2 hD hS hdg hdc hg hfp hrp hgg hgc hn
  have HB := Lib.hid (Below.refl w.heap.size w)
  go_enter Try.func5, Try.ntmps5
  go_upto_region 1 with (fail)
  refine Agg.wp_at fun w1 hw1 => ?_
  have hb : Below w.heap.size w w1 := by rw [hw1.out]; repeat (first | exact Below.refl _ _ | refine Agg.bel_drew ?_ | refine Agg.bel_alloc ?_ _)
  replace HB := Lib.hid (HB.out.trans (hb.mono HB.out.size))
  clear hb
  have H1 : Hid (Blk w1 w.heap.size 38 (diskC x (.slice fx x.files.length fc) (.slice hx1 x.held.length hc1) (.slice cx x.cache.length cc))) := by show Blk _ _ _ _; rw [hw1.out]; exact (Blk.new w 38 (diskC x (.slice fx x.files.length fc) (.slice hx1 x.held.length hc1) (.slice cx x.cache.length cc)).toArray).al _
  have HY : Hid (Blk w1 (w.heap.size + 1) 41 [.slice ax fa.length ac, .int .i64 fk, .slice bx fb.length bc]) := by show Blk _ _ _ _; rw [hw1.out]; exact Blk.newAt (w.alloc _) 41 #[.slice ax fa.length ac, .int .i64 fk, .slice bx fb.length bc] _ (by simp)
  clear hw1
  have HL6 : Hid ((diskC x (.slice fx x.files.length fc) (.slice hx1 x.held.length hc1) (.slice cx x.cache.length cc)).length = 6) := Lib.hid rfl
  obtain ⟨dc, hdc⟩ : ∃ c, diskC x (.slice fx x.files.length fc) (.slice hx1 x.held.length hc1) (.slice cx x.cache.length cc) = c := ⟨_, rfl⟩
  rw [hdc] at H1 HL6 HDK
  clear hdc
  go_wp2_with fail
  refine (wakes_any w1).mono ?_
  rintro e w2 ⟨rfl, hb⟩
  replace HB := Lib.hid (HB.out.trans (hb.mono HB.out.size))
  replace H1 := Lib.hid (H1.out.keep hb)
  replace HY := Lib.hid (HY.out.keep hb)
  clear hb
  have h1 := H1.out
  go_wp2_with (refine Agg.gLoadB 6 h1 HL6.out rfl rfl rfl (by decide +kernel) ?_; simp only [Act.put, List.setIfInBounds_toArray, List.set_cons_succ, List.set_cons_zero])
  clear h1
  refine (HDK.out w2 HB.out).mono ?_
  rintro e w3 ⟨u1, rfl, hu1, hb⟩
  replace HB := Lib.hid (HB.out.trans (hb.mono HB.out.size))
  replace H1 := Lib.hid (H1.out.keep hb)
  replace HY := Lib.hid (HY.out.keep hb)
  clear hb
  have HD7 := Lib.hid hu1.read
  obtain ⟨px, pc, qx, qc, rfl⟩ := HD7.out.shape
  clear hu1
  go_upto_region 4 with (fail)
  refine Agg.wp_at fun w4 hw4 => ?_
  have hb : Below w3.heap.size w3 w4 := by rw [hw4.out]; repeat (first | exact Below.refl _ _ | refine Agg.bel_drew ?_ | refine Agg.bel_alloc ?_ _)
  replace HB := Lib.hid (HB.out.trans (hb.mono HB.out.size))
  replace H1 := Lib.hid (H1.out.keep hb)
  replace HY := Lib.hid (HY.out.keep hb)
  replace HD7 := Lib.hid (HD7.out.keep hb)
  clear hb
  have H7 : Hid (Blk w4 w3.heap.size 46 [.slice px D.pages.length pc, .slice qx D.cache.length qc, .int .i64 D.fuse, .bool D.off]) := by show Blk _ _ _ _; rw [hw4.out]; exact Blk.new w3 46 #[.slice px D.pages.length pc, .slice qx D.cache.length qc, .int .i64 D.fuse, .bool D.off]
  clear hw4
  generalize w3.heap.size = g7 at *
  have hy := HY.out
  go_wp2_with (refine Agg.gLoadB 3 hy rfl rfl rfl rfl (by decide +kernel) ?_; simp only [Act.put, List.setIfInBounds_toArray, List.set_cons_succ, List.set_cons_zero])
  clear hy
  refine (HOW.out w4 HB.out).mono ?_
  rintro e w5 ⟨u2, rfl, hu2, hb⟩
  replace HB := Lib.hid (HB.out.trans (hb.mono HB.out.size))
  replace H1 := Lib.hid (H1.out.keep hb)
  replace HY := Lib.hid (HY.out.keep hb)
  replace HD7 := Lib.hid (HD7.out.keep hb)
  replace H7 := Lib.hid (H7.out.keep hb)
  clear hb
  obtain ⟨ua, ub, rfl, hua, hub⟩ := hu2
  have HUA := Lib.hid (ownSl hua)
  have HUB := Lib.hid (ownSl hub)
  obtain ⟨xa, ca, rfl, _, _⟩ := (ownSl hua).shape
  obtain ⟨xb, cb, rfl, _, _⟩ := (ownSl hub).shape
  clear hua hub
  go_upto_region 5 with (fail)
  refine Agg.wp_at fun w6 hw6 => ?_
  have hb : Below w5.heap.size w5 w6 := by rw [hw6.out]; repeat (first | exact Below.refl _ _ | refine Agg.bel_drew ?_ | refine Agg.bel_alloc ?_ _)
  replace HB := Lib.hid (HB.out.trans (hb.mono HB.out.size))
  replace H1 := Lib.hid (H1.out.keep hb)
  replace HY := Lib.hid (HY.out.keep hb)
  replace HD7 := Lib.hid (HD7.out.keep hb)
  replace H7 := Lib.hid (H7.out.keep hb)
  replace HUA := Lib.hid (HUA.out.keep hb)
  replace HUB := Lib.hid (HUB.out.keep hb)
  clear hb
  have H9 : Hid (Blk w6 w5.heap.size 41 [.slice xa A2.length ca, .int .i64 fk, .slice xb B2.length cb]) := by show Blk _ _ _ _; rw [hw6.out]; exact Blk.new w5 41 #[.slice xa A2.length ca, .int .i64 fk, .slice xb B2.length cb]
  clear hw6
  generalize w5.heap.size = g9 at *
  have xH9_0 := H9.out.cell 0
  have xH9_1 := H9.out.cell 1
  have xH9_2 := H9.out.cell 2
  have lH9 := H9.out.lt
  simp only [List.getElem?_cons_zero, List.getElem?_cons_succ] at xH9_0 xH9_1 xH9_2
  have h7 := H7.out
  go_wp2_with (refine Agg.gLoadB 4 h7 rfl rfl rfl rfl (by decide +kernel) ?_; simp only [Act.put, List.setIfInBounds_toArray, List.set_cons_succ, List.set_cons_zero])
  clear h7
  clear xH9_0 xH9_1 xH9_2 lH9
  refine (HFP.out w6 _ _ _ HD7.out HUA.out HUB.out).mono ?_
  rintro e w7 ⟨vA, rfl, hdA, hb⟩
  replace HB := Lib.hid (HB.out.trans (hb.mono HB.out.size))
  replace H1 := Lib.hid (H1.out.keep hb)
  replace HY := Lib.hid (HY.out.keep hb)
  replace HD7 := Lib.hid (HD7.out.keep hb)
  replace H7 := Lib.hid (H7.out.keep hb)
  replace HUA := Lib.hid (HUA.out.keep hb)
  replace HUB := Lib.hid (HUB.out.keep hb)
  replace H9 := Lib.hid (H9.out.keep hb)
  clear hb
  have HNA := Lib.hid hdA
  obtain ⟨pxA, pcA, qxA, qcA, rfl⟩ := HNA.out.shape
  clear hdA
  go_upto_region 6 with (fail)
  refine Agg.wp_at fun w8 hw8 => ?_
  have hb : Below w7.heap.size w7 w8 := by rw [hw8.out]; repeat (first | exact Below.refl _ _ | refine Agg.bel_drew ?_ | refine Agg.bel_alloc ?_ _)
  replace HB := Lib.hid (HB.out.trans (hb.mono HB.out.size))
  replace H1 := Lib.hid (H1.out.keep hb)
  replace HY := Lib.hid (HY.out.keep hb)
  replace HD7 := Lib.hid (HD7.out.keep hb)
  replace H7 := Lib.hid (H7.out.keep hb)
  replace HUA := Lib.hid (HUA.out.keep hb)
  replace HUB := Lib.hid (HUB.out.keep hb)
  replace H9 := Lib.hid (H9.out.keep hb)
  replace HNA := Lib.hid (HNA.out.keep hb)
  clear hb
  have Hg10 : Hid (Blk w8 w7.heap.size 46 [.slice pxA g.2.pages.length pcA, .slice qxA g.2.cache.length qcA, .int .i64 g.2.fuse, .bool g.2.off]) := by show Blk _ _ _ _; rw [hw8.out]; exact Blk.new w7 46 #[.slice pxA g.2.pages.length pcA, .slice qxA g.2.cache.length qcA, .int .i64 g.2.fuse, .bool g.2.off]
  clear hw8
  generalize w7.heap.size = g10 at *
  have xH9_0 := H9.out.cell 0
  have xH9_1 := H9.out.cell 1
  have xH9_2 := H9.out.cell 2
  have lH9 := H9.out.lt
  simp only [List.getElem?_cons_zero, List.getElem?_cons_succ] at xH9_0 xH9_1 xH9_2
  have h7 := H7.out
  go_wp2_with (refine Agg.gLoadB 4 h7 rfl rfl rfl rfl (by decide +kernel) ?_; simp only [Act.put, List.setIfInBounds_toArray, List.set_cons_succ, List.set_cons_zero])
  clear h7
  clear xH9_0 xH9_1 xH9_2 lH9
  refine (HRP.out w8 _ _ _ HD7.out HUA.out HUB.out).mono ?_
  rintro e w9 ⟨vB, rfl, hdB, hb⟩
  replace HB := Lib.hid (HB.out.trans (hb.mono HB.out.size))
  replace H1 := Lib.hid (H1.out.keep hb)
  replace HY := Lib.hid (HY.out.keep hb)
  replace HD7 := Lib.hid (HD7.out.keep hb)
  replace H7 := Lib.hid (H7.out.keep hb)
  replace HUA := Lib.hid (HUA.out.keep hb)
  replace HUB := Lib.hid (HUB.out.keep hb)
  replace H9 := Lib.hid (H9.out.keep hb)
  replace HNA := Lib.hid (HNA.out.keep hb)
  replace Hg10 := Lib.hid (Hg10.out.keep hb)
  clear hb
  have HNB := Lib.hid hdB
  obtain ⟨pxB, pcB, qxB, qcB, rfl⟩ := HNB.out.shape
  clear hdB
  go_upto_region 7 with (fail)
  refine Agg.wp_at fun w10 hw10 => ?_
  have hb : Below w9.heap.size w9 w10 := by rw [hw10.out]; repeat (first | exact Below.refl _ _ | refine Agg.bel_drew ?_ | refine Agg.bel_alloc ?_ _)
  replace HB := Lib.hid (HB.out.trans (hb.mono HB.out.size))
  replace H1 := Lib.hid (H1.out.keep hb)
  replace HY := Lib.hid (HY.out.keep hb)
  replace HD7 := Lib.hid (HD7.out.keep hb)
  replace H7 := Lib.hid (H7.out.keep hb)
  replace HUA := Lib.hid (HUA.out.keep hb)
  replace HUB := Lib.hid (HUB.out.keep hb)
  replace H9 := Lib.hid (H9.out.keep hb)
  replace HNA := Lib.hid (HNA.out.keep hb)
  replace Hg10 := Lib.hid (Hg10.out.keep hb)
  replace HNB := Lib.hid (HNB.out.keep hb)
  clear hb
  have Hg12 : Hid (Blk w10 w9.heap.size 46 [.slice pxB g.2.pages.length pcB, .slice qxB g.2.cache.length qcB, .int .i64 g.2.fuse, .bool g.2.off]) := by show Blk _ _ _ _; rw [hw10.out]; exact Blk.new w9 46 #[.slice pxB g.2.pages.length pcB, .slice qxB g.2.cache.length qcB, .int .i64 g.2.fuse, .bool g.2.off]
  clear hw10
  generalize w9.heap.size = g12 at *
  refine Agg.listR 9 (by kernel_rfl) ?_
  simp only [List.take_succ_cons, List.take_zero, List.drop_succ_cons, List.drop_zero]
  refine Agg.chMove rfl rfl rfl rfl ?_
  refine Agg.chMove rfl rfl rfl rfl ?_
  refine Agg.chNe false (by simp) rfl rfl rfl rfl rfl ?_
  refine Agg.chMove rfl rfl rfl rfl ?_
  refine Agg.chRowB 4 Hg10.out rfl (by decide +kernel) rfl rfl rfl rfl ?_
  refine Agg.chRowB 4 Hg12.out rfl (by decide +kernel) rfl rfl rfl rfl ?_
  refine Agg.chCall Try.func24 rfl (by kernel_rfl) rfl rfl rfl rfl (fun W hb => rSame_R HGG.out HGG.out (HNA.out.keep hb) (HNB.out.keep hb) true (by simp)) ?_
  refine Agg.chNot rfl rfl rfl rfl ?_
  refine Agg.chPick rfl rfl rfl rfl rfl ?_
  refine Agg.chEnd ?_
  intro vs w11 hb _
  show Exit.then _ _ Exit.normal _ _
  simp only [List.reverse, List.reverseAux, Agg.fill, List.set_cons_succ, List.set_cons_zero]
  replace HB := Lib.hid (HB.out.trans (hb.mono HB.out.size))
  replace H1 := Lib.hid (H1.out.keep hb)
  replace HY := Lib.hid (HY.out.keep hb)
  replace HD7 := Lib.hid (HD7.out.keep hb)
  replace H7 := Lib.hid (H7.out.keep hb)
  replace HUA := Lib.hid (HUA.out.keep hb)
  replace HUB := Lib.hid (HUB.out.keep hb)
  replace H9 := Lib.hid (H9.out.keep hb)
  replace HNA := Lib.hid (HNA.out.keep hb)
  replace Hg10 := Lib.hid (Hg10.out.keep hb)
  replace HNB := Lib.hid (HNB.out.keep hb)
  replace Hg12 := Lib.hid (Hg12.out.keep hb)
  clear hb
  clear HNA HNB Hg10 Hg12 HFP HRP
  have h1 := H1.out
  go_wp2_with (refine Agg.gLoadB 6 h1 HL6.out rfl rfl rfl (by decide +kernel) ?_; simp only [Act.put, List.setIfInBounds_toArray, List.set_cons_succ, List.set_cons_zero])
  clear h1
  refine (HDK.out w11 HB.out).mono ?_
  rintro e w12 ⟨u3, rfl, hu3, hb⟩
  replace HB := Lib.hid (HB.out.trans (hb.mono HB.out.size))
  replace H1 := Lib.hid (H1.out.keep hb)
  replace HY := Lib.hid (HY.out.keep hb)
  replace HD7 := Lib.hid (HD7.out.keep hb)
  replace H7 := Lib.hid (H7.out.keep hb)
  replace HUA := Lib.hid (HUA.out.keep hb)
  replace HUB := Lib.hid (HUB.out.keep hb)
  replace H9 := Lib.hid (H9.out.keep hb)
  clear hb
  have HD14 := Lib.hid hu3.read
  obtain ⟨px4, pc4, qx4, qc4, rfl⟩ := HD14.out.shape
  clear hu3
  go_upto_region 10 with (fail)
  refine Agg.wp_at fun w13 hw13 => ?_
  have hb : Below w12.heap.size w12 w13 := by rw [hw13.out]; repeat (first | exact Below.refl _ _ | refine Agg.bel_drew ?_ | refine Agg.bel_alloc ?_ _)
  replace HB := Lib.hid (HB.out.trans (hb.mono HB.out.size))
  replace H1 := Lib.hid (H1.out.keep hb)
  replace HY := Lib.hid (HY.out.keep hb)
  replace HD7 := Lib.hid (HD7.out.keep hb)
  replace H7 := Lib.hid (H7.out.keep hb)
  replace HUA := Lib.hid (HUA.out.keep hb)
  replace HUB := Lib.hid (HUB.out.keep hb)
  replace H9 := Lib.hid (H9.out.keep hb)
  replace HD14 := Lib.hid (HD14.out.keep hb)
  clear hb
  have H14 : Hid (Blk w13 w12.heap.size 46 [.slice px4 D.pages.length pc4, .slice qx4 D.cache.length qc4, .int .i64 D.fuse, .bool D.off]) := by show Blk _ _ _ _; rw [hw13.out]; exact Blk.new w12 46 #[.slice px4 D.pages.length pc4, .slice qx4 D.cache.length qc4, .int .i64 D.fuse, .bool D.off]
  clear hw13
  generalize w12.heap.size = g14 at *
  refine Agg.chainR 20 (by kernel_rfl) (by kernel_rfl) ?_
  simp only [List.take_succ_cons, List.take_zero, List.drop_succ_cons, List.drop_zero]
  refine Agg.chRowB 4 H7.out rfl (by decide +kernel) rfl rfl rfl rfl ?_
  refine Agg.chRowB 4 H14.out rfl (by decide +kernel) rfl rfl rfl rfl ?_
  refine Agg.chCall Try.func24 rfl (by kernel_rfl) rfl rfl rfl rfl (fun W hb => rSame_R HDG.out HDG.out (HD7.out.keep hb) (HD14.out.keep hb) true (by simp)) ?_
  refine Agg.chMove rfl rfl rfl rfl ?_
  refine Agg.chFA fo_FFile_0 rfl rfl rfl rfl ?_
  refine Agg.chLoadB H9.out (by decide +kernel) rfl rfl (by rfl) rfl rfl ?_
  refine Agg.chRowB 3 HY.out rfl (by decide +kernel) rfl rfl rfl rfl ?_
  refine Agg.chCallG Try.func21 rfl (by kernel_rfl) (FileO 0 A2 fk B2) (FileO.stable _ _ _ _) rfl rfl rfl rfl (fun W hb => Calls.mono (HOW.out W (HB.out.trans (hb.mono HB.out.size))) (by rintro e w2 ⟨v, rfl, ⟨ua, ub, h1, h2, h3⟩, h4⟩; exact ⟨_, rfl, ⟨ua, ub, h1, own_base h2 (Nat.zero_le _), own_base h3 (Nat.zero_le _)⟩, h4⟩)) ?_
  refine Agg.chFieldO 7 (OwnI.stable 0 A2) (file_at 0) rfl rfl rfl rfl rfl rfl ?_
  refine Agg.chCall2 Try.func15 rfl (by kernel_rfl) (.bool true) 8 rfl rfl rfl rfl rfl rfl rfl (fun u W hb hu => eqI_any A2 A2 _ u W (SlR.keep HUA.out hb) (ownSl hu) true (by simp)) ?_
  refine Agg.chPick rfl rfl rfl rfl rfl ?_
  refine Agg.chMove rfl rfl rfl rfl ?_
  refine Agg.chFA fo_FFile_2 rfl rfl rfl rfl ?_
  refine Agg.chLoadB H9.out (by decide +kernel) rfl rfl (by rfl) rfl rfl ?_
  refine Agg.chRowB 3 HY.out rfl (by decide +kernel) rfl rfl rfl rfl ?_
  refine Agg.chCallG Try.func21 rfl (by kernel_rfl) (FileO 0 A2 fk B2) (FileO.stable _ _ _ _) rfl rfl rfl rfl (fun W hb => Calls.mono (HOW.out W (HB.out.trans (hb.mono HB.out.size))) (by rintro e w2 ⟨v, rfl, ⟨ua, ub, h1, h2, h3⟩, h4⟩; exact ⟨_, rfl, ⟨ua, ub, h1, own_base h2 (Nat.zero_le _), own_base h3 (Nat.zero_le _)⟩, h4⟩)) ?_
  refine Agg.chFieldO 15 (OwnY.stable 0 B2) (file_by 0) rfl rfl rfl rfl rfl rfl ?_
  refine Agg.chCall2 Try.func25 rfl (by kernel_rfl) (.bool true) 16 rfl rfl rfl rfl rfl rfl rfl (fun u W hb hu => eqY_any B2 B2 _ u W (SlR.keep HUB.out hb) (ownSl hu) true (by simp)) ?_
  refine Agg.chPick rfl rfl rfl rfl rfl ?_
  refine Agg.chAssign rfl rfl rfl rfl ?_
  refine Agg.chEnd ?_
  intro vs w14 hb _
  refine Agg.wpNil ?_
  simp only [List.reverse, List.reverseAux, Agg.fill, List.set_cons_succ, List.set_cons_zero]
  replace HB := Lib.hid (HB.out.trans (hb.mono HB.out.size))
  replace H1 := Lib.hid (H1.out.keep hb)
  replace HY := Lib.hid (HY.out.keep hb)
  replace HD7 := Lib.hid (HD7.out.keep hb)
  replace H7 := Lib.hid (H7.out.keep hb)
  replace HUA := Lib.hid (HUA.out.keep hb)
  replace HUB := Lib.hid (HUB.out.keep hb)
  replace H9 := Lib.hid (H9.out.keep hb)
  replace HD14 := Lib.hid (HD14.out.keep hb)
  replace H14 := Lib.hid (H14.out.keep hb)
  clear hb
  go_wp2_with fail
  go_ret
  exact ⟨rfl, HB.out⟩
end Go.Proofs.Ytgfmpkcgkjpgnaa
end
section
/-
  FILES: the document's way to get a file is the program's, in plain Lean.
-/
namespace Go.Proofs.Ytgfmpkcgkjpgnaa
open Go.ChangeShapes Go.WideShapes Go.ChangeAt Go.RowKit Agg Pg Dv Fi

/-- what pages say, one behind the other: their first stamp, their bytes -/
noncomputable def readsP (d : Dev) : Nat → Nat → List UInt8 → List Int → Option (Nat × List UInt8)
  | _, f, out, [] => some (f, out)
  | i, f, out, a :: l => if (readR (readP d a).2).2.2 ≠ 0 then none else readsP d (i + 1) (if i = 0 then (readR (readP d a).2).2.1 else f) (out ++ (readR (readP d a).2).1.2) l
/-- do the blocks lie there? -/
def liesP (d : Dev) (A : List Int) (kind : Int) (f : Nat) (out : List UInt8) : Prop := ∀ i (h : i < A.length), layB kind (partB out i) (f + i) = (readP d A[i]).2
theorem gets_reads {d : Dev} {kind bytes : Int} : ∀ (A : List Int) (k f : Nat) (out : List UInt8), (∀ a ∈ A, (readP d a).1 = 0) → (getsP d kind bytes k f out A).2 = 0 → ∃ F, readsP d k f out A = some (F, (getsP d kind bytes k f out A).1) ∧ (k ≠ 0 → F = f) := by
  intro A
  induction A with
  | nil => intro k f out _ _; exact ⟨f, rfl, fun _ => rfl⟩
  | cons a l ih =>
    intro k f out hA hz
    rcases gets_step (kind := kind) (bytes := bytes) (l := l) (k := k) (f := f) (out := out) (hA a (by simp)) with ⟨f2, e1, e2, e3, e4, e5, e6⟩ | e
    · rw [e6] at hz ⊢
      obtain ⟨F, h1, h2⟩ := ih (k + 1) f2 _ (fun x hx => hA x (by simp [hx])) hz
      refine ⟨F, ?_, fun hk => ?_⟩
      · rw [readsP, if_neg (by rw [e2]; decide), ← e1]; exact h1
      · rw [h2 (by omega), e1, if_neg hk]
    · rw [e] at hz; exact absurd hz (by decide)
theorem gets_first {d : Dev} {kind bytes : Int} {A : List Int} (hA : ∀ a ∈ A, (readP d a).1 = 0) (h0 : 0 < A.length) (hz : (getsP d kind bytes 0 0 [] A).2 = 0) : readsP d 0 0 [] A = some ((readR (readP d A[0]).2).2.1, (getsP d kind bytes 0 0 [] A).1) := by
  cases A with
  | nil => simp at h0
  | cons a l =>
    rcases gets_step (kind := kind) (bytes := bytes) (l := l) (k := 0) (f := 0) (out := []) (hA a (by simp)) with ⟨f2, e1, e2, e3, e4, e5, e6⟩ | e
    · rw [e6] at hz ⊢
      obtain ⟨F, h1, h2⟩ := gets_reads l (0 + 1) f2 _ (fun x hx => hA x (by simp [hx])) hz
      rw [readsP, if_neg (by rw [e2]; decide), ← e1, h1, h2 (by decide), e1]; rfl
    · rw [e] at hz; exact absurd hz (by decide)
theorem gets_pre {d : Dev} {kind bytes : Int} : ∀ (A : List Int) (k f : Nat) (out : List UInt8), (∀ a ∈ A, (readP d a).1 = 0) → (getsP d kind bytes k f out A).2 = 0 → ∃ r, (getsP d kind bytes k f out A).1 = out ++ r := by
  intro A
  induction A with
  | nil => intro k f out _ _; exact ⟨[], by rw [List.append_nil]; rfl⟩
  | cons a l ih =>
    intro k f out hA hz
    rcases gets_step (kind := kind) (bytes := bytes) (l := l) (k := k) (f := f) (out := out) (hA a (by simp)) with ⟨f2, e1, e2, e3, e4, e5, e6⟩ | e
    · rw [e6] at hz ⊢
      obtain ⟨r, hr⟩ := ih (k + 1) f2 _ (fun x hx => hA x (by simp [hx])) hz
      exact ⟨_, by rw [hr, List.append_assoc]⟩
    · rw [e] at hz; exact absurd hz (by decide)
/-- the parts that are got are the pages' data -/
theorem gets_part {d : Dev} {kind bytes : Int} (hb : 0 ≤ bytes) : ∀ (A : List Int) (k f : Nat) (out : List UInt8), (∀ a ∈ A, (readP d a).1 = 0) → (getsP d kind bytes k f out A).2 = 0 → (out.length : Int) = min bytes (120 * k) → (∀ i, i < A.length → 120 * ((k + i : Nat) : Int) < bytes) → ∀ i (h : i < A.length), partB (getsP d kind bytes k f out A).1 (k + i) = (readR (readP d A[i]).2).1.2 := by
  intro A
  induction A with
  | nil => intro k f out _ _ _ _ i h; simp at h
  | cons a l ih =>
    intro k f out hA hz ho hl i h
    have hlen := gets_len hb (a :: l) k f out hA hz ho
    rcases gets_step (kind := kind) (bytes := bytes) (l := l) (k := k) (f := f) (out := out) (hA a (by simp)) with ⟨f2, e1, e2, e3, e4, e5, e6⟩ | e
    · rw [e6] at hz hlen ⊢
      cases i with
      | zero =>
        obtain ⟨r, hr⟩ := gets_pre l (k + 1) f2 _ (fun x hx => hA x (by simp [hx])) hz
        rw [hr] at hlen ⊢
        have h0 := hl 0 (by simp)
        have hol : out.length = 120 * k := by omega
        rw [List.getElem_cons_zero]
        unfold partB
        rw [List.append_assoc, Nat.add_zero, Nat.mul_comm, ← hol, List.drop_left]
        by_cases h120 : (readR (readP d a).2).1.2.length = 120
        · rw [← h120, List.take_left]
        · have hr0 : r = [] := by
            apply List.eq_nil_of_length_eq_zero
            rw [List.length_append, List.length_append] at hlen
            omega
          rw [hr0, List.append_nil, List.take_of_length_le (by omega)]
      | succ i =>
        have h2 := ih (k + 1) f2 _ (fun x hx => hA x (by simp [hx])) hz (by rw [List.length_append]; omega) (fun j hj => by have := hl (j + 1) (by simpa using hj); rw [show k + 1 + j = k + (j + 1) by omega]; exact this) i (by simpa using h)
        rw [List.getElem_cons_succ, ← h2]
        congr 1; omega
    · rw [e] at hz; exact absurd hz (by decide)
theorem lay_stamp {kind kind' : Int} {d d' : List UInt8} {n n' : Nat} (h : layB kind d n = layB kind' d' n') : n = n' := by
  have h2 := congrArg st0 h
  exact h2
theorem reads_st {d : Dev} (hg : DGood d) : ∀ (A : List Int) (k f : Nat) (out : List UInt8) (F : Nat) (O : List UInt8), readsP d k f out A = some (F, O) → (∀ i (h : i < A.length), (readR (readP d A[i]).2).2.2 = 0) ∧ (k ≠ 0 → F = f) := by
  intro A
  induction A with
  | nil => intro k f out F O h; rw [readsP] at h; cases h; exact ⟨fun i h => by simp at h, fun _ => rfl⟩
  | cons a l ih =>
    intro k f out F O h
    rw [readsP] at h
    by_cases h0 : (readR (readP d a).2).2.2 = 0
    · rw [if_neg (by rw [h0]; decide)] at h
      obtain ⟨h1, h2⟩ := ih (k + 1) _ _ F O h
      refine ⟨fun i hi => ?_, fun hk => by rw [h2 (by omega), if_neg hk]⟩
      cases i with
      | zero => exact h0
      | succ i => exact h1 i (by simpa using hi)
    · rw [if_pos h0] at h; cases h
/-- the document's way is the program's -/
theorem rget_eq {d : Dev} (hg : DGood d) {kind bytes : Int} {A : List Int} (hA : ∀ a ∈ A, (readP d a).1 = 0) (hk : kind = 3 ∨ kind = 4) (hb : 1 ≤ bytes) (hl : (A.length : Int) = needN bytes) :
    (∃ F O, readsP d 0 0 [] A = some (F, O) ∧ (O.length : Int) = bytes ∧ liesP d A kind F O ∧ getsP d kind bytes 0 0 [] A = (O, 0))
    ∨ ((∀ F O, readsP d 0 0 [] A = some (F, O) → (O.length : Int) = bytes → ¬ liesP d A kind F O) ∧ getsP d kind bytes 0 0 [] A = ([], 300)) := by
  have hn : bytes ≤ 120 * A.length ∧ 1 ≤ A.length ∧ ∀ i, i < A.length → 120 * (i : Int) < bytes := by
    unfold needN at hl
    rw [if_neg (by omega)] at hl
    exact ⟨by omega, by omega, fun i hi => by omega⟩
  obtain ⟨hn1, hn2, hn3⟩ := hn
  rcases gets_two (kind := kind) (bytes := bytes) A 0 0 [] hA with hz | hz
  · left
    have h1 := gets_first hA hn2 hz
    have h2 := gets_len (by omega) A 0 0 [] hA hz (by simp; omega)
    have h3 := gets_inv0 hA hn2 hz
    have h4 := gets_part (by omega) A 0 0 [] hA hz (by simp; omega) (fun i hi => by rw [Nat.zero_add]; exact hn3 i hi)
    refine ⟨_, _, h1, by omega, fun i hi => ?_, by rw [← hz]⟩
    obtain ⟨a1, a2, a3⟩ := h3 i hi
    have hp := h4 i hi
    rw [Nat.zero_add] at hp
    rcases readR_cases _ (readP_bok hg A[i]) _ _ _ _ (rfl : readR (readP d A[i]).2 = ((_, _), _, _)) with ⟨_, _, _, h⟩ | ⟨h, _⟩
    · rw [hp, ← a3, ← a2]; exact h
    · exact absurd a1 h
  · right
    refine ⟨fun F O h1 h2 h3 => ?_, hz⟩
    obtain ⟨hs, _⟩ := reads_st hg A 0 0 [] F O h1
    have hst : ∀ i (h : i < A.length), stampP (F + i) := fun i hi => by
      rcases readR_cases _ (readP_bok hg A[i]) _ _ _ _ (rfl : readR (readP d A[i]).2 = ((_, _), _, _)) with ⟨_, _, hsp, h⟩ | ⟨h, _⟩
      · have e := h3 i hi
        rw [← h] at e
        rw [lay_stamp e]; exact hsp
      · exact absurd (hs i hi) h
    have hf := hst 0 (by omega)
    have hll := hst (A.length - 1) (by omega)
    have e : getsP d kind (O.length : Int) 0 0 [] A = (O, 0) := gets_all (n := F) hk hf.1 (by have := hll.2; omega) (by rw [hl, h2]) (fun i hi => by rw [h3 i hi]; exact Prod.ext (hA _ (List.getElem_mem hi)) rfl)
    rw [h2] at e
    rw [hz] at e
    cases e
end Go.Proofs.Ytgfmpkcgkjpgnaa
end
