/-
  THE WALK OF LAYER 20's STATEMENT FilePuts.
-/
import Derived.Test.YtgfmpkcgkjpgnaaFiY
import Derived.Test.YtgfmpkcgkjpgnaaFiZ
import Derived.Test.YtgfmpkcgkjpgnaaFiT
import Derived.Test.YtgfmpkcgkjpgnaaFi1
import Derived.Test.YtgfmpkcgkjpgnaaDv4
import Derived.Test.YtgfmpkcgkjpgnaaGood
section
namespace Agg
open Go Go.RowKit
section
variable {n kk : Nat} {P : Program} {l rest : List Oper} {W : World} {l0 : List Value} {ds : List Deferred} {acc : List R} {o : Oper} {fin : List R → Prop}
/-- a field of something of which something is known -/
theorem chFieldO {t : TypeId} {ts k : Nat} (j : Nat) {g g' : Value → World → Prop} (hst : Stable g') (hx : ∀ v w, g v w → ∃ u, (∀ w', (Instr.field t v k).run P w' = .ok u w') ∧ g' u w) (ho : o.op = .field t (.tmp ts) k) (hd : depL o j = true) (hj : look kk acc j = some (.op g)) (ht : (l[j]?).map (·.dst) = some (some ts)) (hw : wants kk acc o = some true) (hk : gOk l o = true)
    (h : ChainR n P l.toArray W ⟨l0.toArray, ds⟩ (kk + 1) ((.op g') :: acc) rest fin) : ChainR n P l.toArray W ⟨l0.toArray, ds⟩ kk acc (o :: rest) fin :=
  chPureG (by rw [ho]; rfl) hw hk hst (fun a w hh => by
    obtain ⟨v, hv, hg⟩ := hh.op j ts hd hj ht
    obtain ⟨u, hu, hg'⟩ := hx v w hg
    exact ⟨u, hg', fun w' => by simp only [execOp, ho, hv, Sem.run_bind, hu, Result.andThen_ok, Sem.run_pure]⟩) h
end
end Agg
namespace Go.Proofs.Ytgfmpkcgkjpgnaa
open Go.ChangeShapes Go.WideShapes Go.ChangeAt Go.RowKit Agg Pg Dv Fi
attribute [local go_sem] Oper.semAt_some

theorem file_at (_b : Nat) {base : Nat} {A : List Int} {kind : Int} {B : List UInt8} (v : Value) (w : World) (h : FileO base A kind B v w) : ∃ u, (∀ w', (Instr.field 41 v 0).run Try.prog w' = .ok u w') ∧ OwnI base A u w := by
  obtain ⟨ua, ub, rfl, h1, h2⟩ := h
  obtain ⟨xa, ca, rfl, _, _⟩ := (ownSl h1).shape
  obtain ⟨xb, cb, rfl, _, _⟩ := (ownSl h2).shape
  exact ⟨_, fun w' => by kernel_rfl, h1⟩
theorem file_by (_b : Nat) {base : Nat} {A : List Int} {kind : Int} {B : List UInt8} (v : Value) (w : World) (h : FileO base A kind B v w) : ∃ u, (∀ w', (Instr.field 41 v 2).run Try.prog w' = .ok u w') ∧ OwnY base B u w := by
  obtain ⟨ua, ub, rfl, h1, h2⟩ := h
  obtain ⟨xa, ca, rfl, _, _⟩ := (ownSl h1).shape
  obtain ⟨xb, cb, rfl, _, _⟩ := (ownSl h2).shape
  exact ⟨_, fun w' => by kernel_rfl, h2⟩
theorem putsP_len {l : List (Int × List Sec)} : ∀ {d : Dev}, (putsP d l).2.cache.length ≤ d.cache.length + l.length := by
  induction l with
  | nil => intro d; exact Nat.le_refl _
  | cons x l ih =>
    intro d
    have h1 := goesP_len (d := d) (n := d.cache.length + 1) (Nat.le_succ _) (putP_len d x.1 x.2)
    rw [putsP]
    split
    · rw [List.length_cons]; omega
    · have := ih (d := (goesP d (putP d x.1 x.2)).2)
      rw [List.length_cons]; omega
theorem fPut_good {d : Dev} (h : DGood d) (A : List Int) (kind : Int) (n : Nat) (B : List UInt8) (ha : A.length ≤ 1000) : DGood (fPut d A kind n B).2 ∧ (fPut d A kind n B).2.cache.length ≤ d.cache.length + A.length := by
  unfold fPut
  split
  · exact ⟨dev0_good, by simp [dev0]⟩
  · split
    · exact ⟨h, Nat.le_add_right _ _⟩
    · split
      · exact ⟨dev0_good, by simp [dev0]⟩
      · split
        · exact ⟨dev0_good, by simp [dev0]⟩
        · rename_i hs
          split
          · exact ⟨dev0_good, by simp [dev0]⟩
          · have hs2 := (Classical.not_not.1 hs).2
            refine ⟨putsP_good (blksF_bok _ _ _ _ 0 (by omega)) h, ?_⟩
            have := putsP_len (l := blksF kind n B 0 A) (d := d)
            rwa [blksF_length] at this
set_option maxHeartbeats 8000000 in
set_option maxRecDepth 100000 in
theorem puts_walk (x : DiskD) (fv hv cv : Value) (hx : DiskOk x) (fa : List Int) (fk : Int) (fb : List UInt8) (va vb : Value) (n : Nat) (hn : n < 18446744073709551616) (w : World) (hf : Files w fv x.files) (hh : PgsD w hv x.held) (hc : PgsD w cv x.cache) (ha : Ints w va fa) (hb : Bytes w vb fb) :
    Calls Try.prog 5 #[.agg (diskC x fv hv cv).toArray, .agg #[va, .int .i64 fk, vb], .int .u64 (n : Int)] w fun e w' => e = .returned (.bool true) ∧ Below w.heap.size w w' := by
  obtain ⟨fx, fc, rfl, _, _⟩ := hf.1.shape
  obtain ⟨hx1, hc1, rfl, _, _⟩ := hh.shape
  obtain ⟨cx, cc, rfl, _, _⟩ := hc.shape
  obtain ⟨ax, ac, rfl, _, _⟩ := ha.shape
  obtain ⟨bx, bc, rfl, _, _⟩ := hb.shape
  have HDK := Lib.hid (fun W (hW : Below w.heap.size w W) => disk_any x _ _ _ hx W (hf.keep hW) (SlR.keep hh hW) (SlR.keep hc hW))
  have HOW := Lib.hid (fun W (hW : Below w.heap.size w W) => fown_any fa fk fb _ _ W (SlR.keep ha hW) (SlR.keep hb hW))
  have hdg := diskD_good hx
  have hdc : (diskD x).cache.length ≤ 20 := cacheTo_len x _
  obtain ⟨D, hD⟩ : ∃ D, diskD x = D := ⟨_, rfl⟩
  obtain ⟨S, hS⟩ : ∃ S, diskS x = S := ⟨_, rfl⟩
  obtain ⟨A2, hA2⟩ : ∃ l, fa.take 20 = l := ⟨_, rfl⟩
  obtain ⟨B2, hB2⟩ : ∃ l, fb.take 2000 = l := ⟨_, rfl⟩
  have hla : A2.length ≤ 20 := by rw [← hA2, List.length_take]; omega
  have hlb : B2.length ≤ 2000 := by rw [← hB2, List.length_take]; omega
  rw [hD, hS] at HDK
  rw [hA2, hB2] at HOW
  rw [hD] at hdg hdc
  have HDG := Lib.hid hdg
  have HDC := Lib.hid hdc
  obtain ⟨hgg, hgc⟩ := fPut_good hdg A2 fk n B2 (by omega)
  obtain ⟨g, hg⟩ : ∃ g, fPut D A2 fk n B2 = g := ⟨_, rfl⟩
  have hfp := fun W (dv av bv : Value) (h1 : DevR W dv D) (h2 : Ints W av A2) (h3 : Bytes W bv B2) => fPut_any D A2 fk n B2 dv av bv W hdg (by omega) h1 h2 h3 (by omega) (by omega) hn
  have hrp := fun W (dv av bv : Value) (h1 : DevR W dv D) (h2 : Ints W av A2) (h3 : Bytes W bv B2) => rfPut_any D A2 fk n B2 dv av bv W hdg (by omega) h1 h2 h3 (by omega) (by omega) hn
  rw [hg] at hgg hgc hfp hrp
  have HFP := Lib.hid hfp
  have HRP := Lib.hid hrp
  have HGG := Lib.hid hgg
  clear hf hh hc ha hb hx hA2 hB2 hD hS hdg hdc hg hfp hrp hgg hgc hn
  have HB := Lib.hid (Below.refl w.heap.size w)
  go_enter Try.func5, Try.ntmps5
  go_upto_region 1 with (fail)
  refine Agg.wp_at fun w1 hw1 => ?_
  have hb : Below w.heap.size w w1 := by rw [hw1.out]; repeat (first | exact Below.refl _ _ | refine Agg.bel_drew ?_ | refine Agg.bel_alloc ?_ _)
  replace HB := Lib.hid (HB.out.trans (hb.mono HB.out.size))
  clear hb
  have H1 : Hid (Blk w1 w.heap.size 38 (diskC x (.slice fx x.files.length fc) (.slice hx1 x.held.length hc1) (.slice cx x.cache.length cc))) := by show Blk _ _ _ _; rw [hw1.out]; exact (Blk.new w 38 (diskC x (.slice fx x.files.length fc) (.slice hx1 x.held.length hc1) (.slice cx x.cache.length cc)).toArray).al _
  have HY : Hid (Blk w1 (w.heap.size + 1) 41 [.slice ax fa.length ac, .int .i64 fk, .slice bx fb.length bc]) := by show Blk _ _ _ _; rw [hw1.out]; exact Blk.newAt (w.alloc _) 41 #[.slice ax fa.length ac, .int .i64 fk, .slice bx fb.length bc] _ (by simp)
  clear hw1
  have HL6 : Hid ((diskC x (.slice fx x.files.length fc) (.slice hx1 x.held.length hc1) (.slice cx x.cache.length cc)).length = 6) := Lib.hid rfl
  obtain ⟨dc, hdc⟩ : ∃ c, diskC x (.slice fx x.files.length fc) (.slice hx1 x.held.length hc1) (.slice cx x.cache.length cc) = c := ⟨_, rfl⟩
  rw [hdc] at H1 HL6 HDK
  clear hdc
  go_wp2_with fail
  refine (wakes_any w1).mono ?_
  rintro e w2 ⟨rfl, hb⟩
  replace HB := Lib.hid (HB.out.trans (hb.mono HB.out.size))
  replace H1 := Lib.hid (H1.out.keep hb)
  replace HY := Lib.hid (HY.out.keep hb)
  clear hb
  have h1 := H1.out
  go_wp2_with (refine Agg.gLoadB 6 h1 HL6.out rfl rfl rfl (by decide +kernel) ?_; simp only [Act.put, List.setIfInBounds_toArray, List.set_cons_succ, List.set_cons_zero])
  clear h1
  refine (HDK.out w2 HB.out).mono ?_
  rintro e w3 ⟨u1, rfl, hu1, hb⟩
  replace HB := Lib.hid (HB.out.trans (hb.mono HB.out.size))
  replace H1 := Lib.hid (H1.out.keep hb)
  replace HY := Lib.hid (HY.out.keep hb)
  clear hb
  have HD7 := Lib.hid hu1.read
  obtain ⟨px, pc, qx, qc, rfl⟩ := HD7.out.shape
  clear hu1
  go_upto_region 4 with (fail)
  refine Agg.wp_at fun w4 hw4 => ?_
  have hb : Below w3.heap.size w3 w4 := by rw [hw4.out]; repeat (first | exact Below.refl _ _ | refine Agg.bel_drew ?_ | refine Agg.bel_alloc ?_ _)
  replace HB := Lib.hid (HB.out.trans (hb.mono HB.out.size))
  replace H1 := Lib.hid (H1.out.keep hb)
  replace HY := Lib.hid (HY.out.keep hb)
  replace HD7 := Lib.hid (HD7.out.keep hb)
  clear hb
  have H7 : Hid (Blk w4 w3.heap.size 46 [.slice px D.pages.length pc, .slice qx D.cache.length qc, .int .i64 D.fuse, .bool D.off]) := by show Blk _ _ _ _; rw [hw4.out]; exact Blk.new w3 46 #[.slice px D.pages.length pc, .slice qx D.cache.length qc, .int .i64 D.fuse, .bool D.off]
  clear hw4
  generalize w3.heap.size = g7 at *
  have hy := HY.out
  go_wp2_with (refine Agg.gLoadB 3 hy rfl rfl rfl rfl (by decide +kernel) ?_; simp only [Act.put, List.setIfInBounds_toArray, List.set_cons_succ, List.set_cons_zero])
  clear hy
  refine (HOW.out w4 HB.out).mono ?_
  rintro e w5 ⟨u2, rfl, hu2, hb⟩
  replace HB := Lib.hid (HB.out.trans (hb.mono HB.out.size))
  replace H1 := Lib.hid (H1.out.keep hb)
  replace HY := Lib.hid (HY.out.keep hb)
  replace HD7 := Lib.hid (HD7.out.keep hb)
  replace H7 := Lib.hid (H7.out.keep hb)
  clear hb
  obtain ⟨ua, ub, rfl, hua, hub⟩ := hu2
  have HUA := Lib.hid (ownSl hua)
  have HUB := Lib.hid (ownSl hub)
  obtain ⟨xa, ca, rfl, _, _⟩ := (ownSl hua).shape
  obtain ⟨xb, cb, rfl, _, _⟩ := (ownSl hub).shape
  clear hua hub
  go_upto_region 5 with (fail)
  refine Agg.wp_at fun w6 hw6 => ?_
  have hb : Below w5.heap.size w5 w6 := by rw [hw6.out]; repeat (first | exact Below.refl _ _ | refine Agg.bel_drew ?_ | refine Agg.bel_alloc ?_ _)
  replace HB := Lib.hid (HB.out.trans (hb.mono HB.out.size))
  replace H1 := Lib.hid (H1.out.keep hb)
  replace HY := Lib.hid (HY.out.keep hb)
  replace HD7 := Lib.hid (HD7.out.keep hb)
  replace H7 := Lib.hid (H7.out.keep hb)
  replace HUA := Lib.hid (HUA.out.keep hb)
  replace HUB := Lib.hid (HUB.out.keep hb)
  clear hb
  have H9 : Hid (Blk w6 w5.heap.size 41 [.slice xa A2.length ca, .int .i64 fk, .slice xb B2.length cb]) := by show Blk _ _ _ _; rw [hw6.out]; exact Blk.new w5 41 #[.slice xa A2.length ca, .int .i64 fk, .slice xb B2.length cb]
  clear hw6
  generalize w5.heap.size = g9 at *
  have xH9_0 := H9.out.cell 0
  have xH9_1 := H9.out.cell 1
  have xH9_2 := H9.out.cell 2
  have lH9 := H9.out.lt
  simp only [List.getElem?_cons_zero, List.getElem?_cons_succ] at xH9_0 xH9_1 xH9_2
  have h7 := H7.out
  go_wp2_with (refine Agg.gLoadB 4 h7 rfl rfl rfl rfl (by decide +kernel) ?_; simp only [Act.put, List.setIfInBounds_toArray, List.set_cons_succ, List.set_cons_zero])
  clear h7
  clear xH9_0 xH9_1 xH9_2 lH9
  refine (HFP.out w6 _ _ _ HD7.out HUA.out HUB.out).mono ?_
  rintro e w7 ⟨vA, rfl, hdA, hb⟩
  replace HB := Lib.hid (HB.out.trans (hb.mono HB.out.size))
  replace H1 := Lib.hid (H1.out.keep hb)
  replace HY := Lib.hid (HY.out.keep hb)
  replace HD7 := Lib.hid (HD7.out.keep hb)
  replace H7 := Lib.hid (H7.out.keep hb)
  replace HUA := Lib.hid (HUA.out.keep hb)
  replace HUB := Lib.hid (HUB.out.keep hb)
  replace H9 := Lib.hid (H9.out.keep hb)
  clear hb
  have HNA := Lib.hid hdA
  obtain ⟨pxA, pcA, qxA, qcA, rfl⟩ := HNA.out.shape
  clear hdA
  go_upto_region 6 with (fail)
  refine Agg.wp_at fun w8 hw8 => ?_
  have hb : Below w7.heap.size w7 w8 := by rw [hw8.out]; repeat (first | exact Below.refl _ _ | refine Agg.bel_drew ?_ | refine Agg.bel_alloc ?_ _)
  replace HB := Lib.hid (HB.out.trans (hb.mono HB.out.size))
  replace H1 := Lib.hid (H1.out.keep hb)
  replace HY := Lib.hid (HY.out.keep hb)
  replace HD7 := Lib.hid (HD7.out.keep hb)
  replace H7 := Lib.hid (H7.out.keep hb)
  replace HUA := Lib.hid (HUA.out.keep hb)
  replace HUB := Lib.hid (HUB.out.keep hb)
  replace H9 := Lib.hid (H9.out.keep hb)
  replace HNA := Lib.hid (HNA.out.keep hb)
  clear hb
  have Hg10 : Hid (Blk w8 w7.heap.size 46 [.slice pxA g.2.pages.length pcA, .slice qxA g.2.cache.length qcA, .int .i64 g.2.fuse, .bool g.2.off]) := by show Blk _ _ _ _; rw [hw8.out]; exact Blk.new w7 46 #[.slice pxA g.2.pages.length pcA, .slice qxA g.2.cache.length qcA, .int .i64 g.2.fuse, .bool g.2.off]
  clear hw8
  generalize w7.heap.size = g10 at *
  have xH9_0 := H9.out.cell 0
  have xH9_1 := H9.out.cell 1
  have xH9_2 := H9.out.cell 2
  have lH9 := H9.out.lt
  simp only [List.getElem?_cons_zero, List.getElem?_cons_succ] at xH9_0 xH9_1 xH9_2
  have h7 := H7.out
  go_wp2_with (refine Agg.gLoadB 4 h7 rfl rfl rfl rfl (by decide +kernel) ?_; simp only [Act.put, List.setIfInBounds_toArray, List.set_cons_succ, List.set_cons_zero])
  clear h7
  clear xH9_0 xH9_1 xH9_2 lH9
  refine (HRP.out w8 _ _ _ HD7.out HUA.out HUB.out).mono ?_
  rintro e w9 ⟨vB, rfl, hdB, hb⟩
  replace HB := Lib.hid (HB.out.trans (hb.mono HB.out.size))
  replace H1 := Lib.hid (H1.out.keep hb)
  replace HY := Lib.hid (HY.out.keep hb)
  replace HD7 := Lib.hid (HD7.out.keep hb)
  replace H7 := Lib.hid (H7.out.keep hb)
  replace HUA := Lib.hid (HUA.out.keep hb)
  replace HUB := Lib.hid (HUB.out.keep hb)
  replace H9 := Lib.hid (H9.out.keep hb)
  replace HNA := Lib.hid (HNA.out.keep hb)
  replace Hg10 := Lib.hid (Hg10.out.keep hb)
  clear hb
  have HNB := Lib.hid hdB
  obtain ⟨pxB, pcB, qxB, qcB, rfl⟩ := HNB.out.shape
  clear hdB
  go_upto_region 7 with (fail)
  refine Agg.wp_at fun w10 hw10 => ?_
  have hb : Below w9.heap.size w9 w10 := by rw [hw10.out]; repeat (first | exact Below.refl _ _ | refine Agg.bel_drew ?_ | refine Agg.bel_alloc ?_ _)
  replace HB := Lib.hid (HB.out.trans (hb.mono HB.out.size))
  replace H1 := Lib.hid (H1.out.keep hb)
  replace HY := Lib.hid (HY.out.keep hb)
  replace HD7 := Lib.hid (HD7.out.keep hb)
  replace H7 := Lib.hid (H7.out.keep hb)
  replace HUA := Lib.hid (HUA.out.keep hb)
  replace HUB := Lib.hid (HUB.out.keep hb)
  replace H9 := Lib.hid (H9.out.keep hb)
  replace HNA := Lib.hid (HNA.out.keep hb)
  replace Hg10 := Lib.hid (Hg10.out.keep hb)
  replace HNB := Lib.hid (HNB.out.keep hb)
  clear hb
  have Hg12 : Hid (Blk w10 w9.heap.size 46 [.slice pxB g.2.pages.length pcB, .slice qxB g.2.cache.length qcB, .int .i64 g.2.fuse, .bool g.2.off]) := by show Blk _ _ _ _; rw [hw10.out]; exact Blk.new w9 46 #[.slice pxB g.2.pages.length pcB, .slice qxB g.2.cache.length qcB, .int .i64 g.2.fuse, .bool g.2.off]
  clear hw10
  generalize w9.heap.size = g12 at *
  refine Agg.listR 9 (by kernel_rfl) ?_
  simp only [List.take_succ_cons, List.take_zero, List.drop_succ_cons, List.drop_zero]
  refine Agg.chMove rfl rfl rfl rfl ?_
  refine Agg.chMove rfl rfl rfl rfl ?_
  refine Agg.chNe false (by simp) rfl rfl rfl rfl rfl ?_
  refine Agg.chMove rfl rfl rfl rfl ?_
  refine Agg.chRowB 4 Hg10.out rfl (by decide +kernel) rfl rfl rfl rfl ?_
  refine Agg.chRowB 4 Hg12.out rfl (by decide +kernel) rfl rfl rfl rfl ?_
  refine Agg.chCall Try.func24 rfl (by kernel_rfl) rfl rfl rfl rfl (fun W hb => rSame_R HGG.out HGG.out (HNA.out.keep hb) (HNB.out.keep hb) true (by simp)) ?_
  refine Agg.chNot rfl rfl rfl rfl ?_
  refine Agg.chPick rfl rfl rfl rfl rfl ?_
  refine Agg.chEnd ?_
  intro vs w11 hb _
  show Exit.then _ _ Exit.normal _ _
  simp only [List.reverse, List.reverseAux, Agg.fill, List.set_cons_succ, List.set_cons_zero]
  replace HB := Lib.hid (HB.out.trans (hb.mono HB.out.size))
  replace H1 := Lib.hid (H1.out.keep hb)
  replace HY := Lib.hid (HY.out.keep hb)
  replace HD7 := Lib.hid (HD7.out.keep hb)
  replace H7 := Lib.hid (H7.out.keep hb)
  replace HUA := Lib.hid (HUA.out.keep hb)
  replace HUB := Lib.hid (HUB.out.keep hb)
  replace H9 := Lib.hid (H9.out.keep hb)
  replace HNA := Lib.hid (HNA.out.keep hb)
  replace Hg10 := Lib.hid (Hg10.out.keep hb)
  replace HNB := Lib.hid (HNB.out.keep hb)
  replace Hg12 := Lib.hid (Hg12.out.keep hb)
  clear hb
  clear HNA HNB Hg10 Hg12 HFP HRP
  have h1 := H1.out
  go_wp2_with (refine Agg.gLoadB 6 h1 HL6.out rfl rfl rfl (by decide +kernel) ?_; simp only [Act.put, List.setIfInBounds_toArray, List.set_cons_succ, List.set_cons_zero])
  clear h1
  refine (HDK.out w11 HB.out).mono ?_
  rintro e w12 ⟨u3, rfl, hu3, hb⟩
  replace HB := Lib.hid (HB.out.trans (hb.mono HB.out.size))
  replace H1 := Lib.hid (H1.out.keep hb)
  replace HY := Lib.hid (HY.out.keep hb)
  replace HD7 := Lib.hid (HD7.out.keep hb)
  replace H7 := Lib.hid (H7.out.keep hb)
  replace HUA := Lib.hid (HUA.out.keep hb)
  replace HUB := Lib.hid (HUB.out.keep hb)
  replace H9 := Lib.hid (H9.out.keep hb)
  clear hb
  have HD14 := Lib.hid hu3.read
  obtain ⟨px4, pc4, qx4, qc4, rfl⟩ := HD14.out.shape
  clear hu3
  go_upto_region 10 with (fail)
  refine Agg.wp_at fun w13 hw13 => ?_
  have hb : Below w12.heap.size w12 w13 := by rw [hw13.out]; repeat (first | exact Below.refl _ _ | refine Agg.bel_drew ?_ | refine Agg.bel_alloc ?_ _)
  replace HB := Lib.hid (HB.out.trans (hb.mono HB.out.size))
  replace H1 := Lib.hid (H1.out.keep hb)
  replace HY := Lib.hid (HY.out.keep hb)
  replace HD7 := Lib.hid (HD7.out.keep hb)
  replace H7 := Lib.hid (H7.out.keep hb)
  replace HUA := Lib.hid (HUA.out.keep hb)
  replace HUB := Lib.hid (HUB.out.keep hb)
  replace H9 := Lib.hid (H9.out.keep hb)
  replace HD14 := Lib.hid (HD14.out.keep hb)
  clear hb
  have H14 : Hid (Blk w13 w12.heap.size 46 [.slice px4 D.pages.length pc4, .slice qx4 D.cache.length qc4, .int .i64 D.fuse, .bool D.off]) := by show Blk _ _ _ _; rw [hw13.out]; exact Blk.new w12 46 #[.slice px4 D.pages.length pc4, .slice qx4 D.cache.length qc4, .int .i64 D.fuse, .bool D.off]
  clear hw13
  generalize w12.heap.size = g14 at *
  refine Agg.chainR 20 (by kernel_rfl) (by kernel_rfl) ?_
  simp only [List.take_succ_cons, List.take_zero, List.drop_succ_cons, List.drop_zero]
  refine Agg.chRowB 4 H7.out rfl (by decide +kernel) rfl rfl rfl rfl ?_
  refine Agg.chRowB 4 H14.out rfl (by decide +kernel) rfl rfl rfl rfl ?_
  refine Agg.chCall Try.func24 rfl (by kernel_rfl) rfl rfl rfl rfl (fun W hb => rSame_R HDG.out HDG.out (HD7.out.keep hb) (HD14.out.keep hb) true (by simp)) ?_
  refine Agg.chMove rfl rfl rfl rfl ?_
  refine Agg.chFA fo_FFile_0 rfl rfl rfl rfl ?_
  refine Agg.chLoadB H9.out (by decide +kernel) rfl rfl (by rfl) rfl rfl ?_
  refine Agg.chRowB 3 HY.out rfl (by decide +kernel) rfl rfl rfl rfl ?_
  refine Agg.chCallG Try.func21 rfl (by kernel_rfl) (FileO 0 A2 fk B2) (FileO.stable _ _ _ _) rfl rfl rfl rfl (fun W hb => Calls.mono (HOW.out W (HB.out.trans (hb.mono HB.out.size))) (by rintro e w2 ⟨v, rfl, ⟨ua, ub, h1, h2, h3⟩, h4⟩; exact ⟨_, rfl, ⟨ua, ub, h1, own_base h2 (Nat.zero_le _), own_base h3 (Nat.zero_le _)⟩, h4⟩)) ?_
  refine Agg.chFieldO 7 (OwnI.stable 0 A2) (file_at 0) rfl rfl rfl rfl rfl rfl ?_
  refine Agg.chCall2 Try.func15 rfl (by kernel_rfl) (.bool true) 8 rfl rfl rfl rfl rfl rfl rfl (fun u W hb hu => eqI_any A2 A2 _ u W (SlR.keep HUA.out hb) (ownSl hu) true (by simp)) ?_
  refine Agg.chPick rfl rfl rfl rfl rfl ?_
  refine Agg.chMove rfl rfl rfl rfl ?_
  refine Agg.chFA fo_FFile_2 rfl rfl rfl rfl ?_
  refine Agg.chLoadB H9.out (by decide +kernel) rfl rfl (by rfl) rfl rfl ?_
  refine Agg.chRowB 3 HY.out rfl (by decide +kernel) rfl rfl rfl rfl ?_
  refine Agg.chCallG Try.func21 rfl (by kernel_rfl) (FileO 0 A2 fk B2) (FileO.stable _ _ _ _) rfl rfl rfl rfl (fun W hb => Calls.mono (HOW.out W (HB.out.trans (hb.mono HB.out.size))) (by rintro e w2 ⟨v, rfl, ⟨ua, ub, h1, h2, h3⟩, h4⟩; exact ⟨_, rfl, ⟨ua, ub, h1, own_base h2 (Nat.zero_le _), own_base h3 (Nat.zero_le _)⟩, h4⟩)) ?_
  refine Agg.chFieldO 15 (OwnY.stable 0 B2) (file_by 0) rfl rfl rfl rfl rfl rfl ?_
  refine Agg.chCall2 Try.func25 rfl (by kernel_rfl) (.bool true) 16 rfl rfl rfl rfl rfl rfl rfl (fun u W hb hu => eqY_any B2 B2 _ u W (SlR.keep HUB.out hb) (ownSl hu) true (by simp)) ?_
  refine Agg.chPick rfl rfl rfl rfl rfl ?_
  refine Agg.chAssign rfl rfl rfl rfl ?_
  refine Agg.chEnd ?_
  intro vs w14 hb _
  refine Agg.wpNil ?_
  simp only [List.reverse, List.reverseAux, Agg.fill, List.set_cons_succ, List.set_cons_zero]
  replace HB := Lib.hid (HB.out.trans (hb.mono HB.out.size))
  replace H1 := Lib.hid (H1.out.keep hb)
  replace HY := Lib.hid (HY.out.keep hb)
  replace HD7 := Lib.hid (HD7.out.keep hb)
  replace H7 := Lib.hid (H7.out.keep hb)
  replace HUA := Lib.hid (HUA.out.keep hb)
  replace HUB := Lib.hid (HUB.out.keep hb)
  replace H9 := Lib.hid (H9.out.keep hb)
  replace HD14 := Lib.hid (HD14.out.keep hb)
  replace H14 := Lib.hid (H14.out.keep hb)
  clear hb
  go_wp2_with fail
  go_ret
  exact ⟨rfl, HB.out⟩
end Go.Proofs.Ytgfmpkcgkjpgnaa
end
section
/-
  DEVICES: what arguments of the statements hold.
-/
namespace Go.Proofs.Ytgfmpkcgkjpgnaa
open Go.ChangeShapes Go.WideShapes Go.ChangeAt Go.RowKit Agg Pg Dv

def FlOk (f : Fl) : Prop := f.Ok ∧ (Lit.int .i64 f.page).wf = true
theorem u64_nat {z : Int} (h : (Lit.int .u64 z).wf = true) : ∃ n : Nat, z = n ∧ n < 18446744073709551616 := by
  simp [Lit.wf, IntKind.min, IntKind.max, IntKind.signed, IntKind.bits] at h
  exact ⟨z.toNat, by omega, by omega⟩
theorem u8_byte {z : Int} (h : (Lit.int .u8 z).wf = true) : ∃ b : UInt8, z = b.toNat := by
  simp [Lit.wf, IntKind.min, IntKind.max, IntKind.signed, IntKind.bits] at h
  exact ⟨UInt8.ofNat z.toNat, by rw [UInt8.toNat_ofNat']; omega⟩
theorem good_int {w : World} {fuel : Nat} {v : Value} (h : Agg.Good Try.prog w fuel 3 [v]) : ∃ z : Int, v = .int .i64 z ∧ (Lit.int .i64 z).wf = true := by
  have hf := good_fits fuel 1 3 [some .i64] [v] (by kernel_rfl) h
  obtain ⟨x, r, he, ⟨z, rfl, hz⟩, _⟩ := Agg.Fits.cons hf
  simp only [List.cons.injEq] at he
  exact ⟨z, he.1, hz⟩
theorem good_bool {w : World} {fuel : Nat} {v : Value} (h : Agg.Good Try.prog w fuel 4 [v]) : ∃ z : Bool, v = .bool z := by
  have hf := good_fits fuel 1 4 [none] [v] (by kernel_rfl) h
  obtain ⟨x, r, he, ⟨z, rfl⟩, _⟩ := Agg.Fits.cons hf
  simp only [List.cons.injEq] at he
  exact ⟨z, he.1⟩
theorem iC_flat : ∀ l : List Int, iC l = l.flatMap (fun z => [Value.int .i64 z])
  | [] => rfl
  | a :: r => by rw [List.flatMap_cons, ← iC_flat r]; rfl
theorem good_ints {w : World} {fuel : Nat} {v : Value} (h : Agg.Good Try.prog w fuel 22 [v]) : ∃ l : List Int, Ints w v l ∧ (∀ z ∈ l, (Lit.int .i64 z).wf = true) ∧ l.length ≤ maxLen := by
  obtain ⟨l, h1, h2, h3⟩ := good_sl (α := Int) Try.underlying22 (sz := 1) (by kernel_rfl) (fun z => [.int .i64 z]) (fun z => (Lit.int .i64 z).wf = true) (fun _ => rfl) (fun fu cs hg => by
    have hf := good_fits fu 1 3 [some .i64] cs (by kernel_rfl) hg
    obtain ⟨x, r, rfl, ⟨z, rfl, hz⟩, hf2⟩ := Agg.Fits.cons hf
    rw [hf2.nil]
    exact ⟨z, rfl, hz⟩) h
  refine ⟨l, ?_, h2, h3⟩
  show SlR _ _ _ _ _
  have e := iC_flat l
  rw [e]; exact h1
/-- a device that is told, in memory -/
def LaidOk (w : World) (x : LaidD) (fv cv : Value) : Prop := Fls w fv x.fills ∧ Fls w cv x.cache ∧ (∀ f ∈ x.fills, FlOk f) ∧ ∀ f ∈ x.cache, FlOk f
theorem LaidOk.keep {w w' : World} {x : LaidD} {fv cv : Value} (h : LaidOk w x fv cv) (hb : Below w.heap.size w w') : LaidOk w' x fv cv := ⟨SlR.keep h.1 hb, SlR.keep h.2.1 hb, h.2.2⟩
/-- an op, in memory -/
def OpOk (w : World) (o : OpD) (mv : Value) : Prop := FlOk o.fl ∧ Ints w mv o.ms ∧ (Lit.int .i64 o.n).wf = true
theorem OpOk.keep {w w' : World} {o : OpD} {mv : Value} (h : OpOk w o mv) (hb : Below w.heap.size w w') : OpOk w' o mv := ⟨h.1, SlR.keep h.2.1 hb, h.2.2⟩
/-- ops in memory -/
def opsC (l : List (OpD × Value)) : List Value := l.flatMap fun x => opC x.1 x.2
def Opss (w : World) (v : Value) (l : List (OpD × Value)) : Prop := SlR w v 9 l.length (opsC l) ∧ ∀ x ∈ l, OpOk w x.1 x.2
theorem Opss.keep {w w' : World} {v : Value} {l : List (OpD × Value)} (h : Opss w v l) (hb : Below w.heap.size w w') : Opss w' v l := ⟨SlR.keep h.1 hb, fun x hx => (h.2 x hx).keep hb⟩
end Go.Proofs.Ytgfmpkcgkjpgnaa
end
section
/-
  FILES: what arguments of the statements hold: disks, files.
-/
namespace Go.Proofs.Ytgfmpkcgkjpgnaa
open Go.ChangeShapes Go.WideShapes Go.ChangeAt Go.RowKit Agg Pg Dv Fi

set_option maxRecDepth 100000 in
theorem good_file {w : World} {fuel : Nat} {l : List Value} (h : Agg.Good Try.prog w fuel 41 l) : ∃ f : FileV, l = fiC f ∧ Ints w f.va f.at_ ∧ Bytes w f.vb f.bytes := by
  cases fuel with
  | zero => exact h.elim
  | succ n =>
    unfold Agg.Good at h
    rw [Try.underlying41] at h
    simp only at h
    obtain ⟨hl, hf⟩ := h
    have h0 : Agg.Good Try.prog w n 22 ((l.drop 0).take (Try.prog.cellsOf 22)) := hf 0 _ rfl
    have h1 : Agg.Good Try.prog w n 3 ((l.drop 1).take (Try.prog.cellsOf 3)) := hf 1 _ rfl
    have h2 : Agg.Good Try.prog w n 39 ((l.drop 2).take (Try.prog.cellsOf 39)) := hf 2 _ rfl
    have e0 : Try.prog.cellsOf 22 = 1 := by kernel_rfl
    have e1 : Try.prog.cellsOf 3 = 1 := by kernel_rfl
    have e3 : Try.prog.cellsOf 39 = 1 := by kernel_rfl
    have e2 : Try.prog.cellsOf 41 = 3 := by kernel_rfl
    rw [e0] at h0
    rw [e1] at h1
    rw [e3] at h2
    rw [e2] at hl
    match l, hl with
    | [a, b, c], _ =>
      obtain ⟨A, hA, _, _⟩ := good_ints h0
      obtain ⟨z, rfl, _⟩ := good_int h1
      obtain ⟨B, hB, _⟩ := good_bytes Try.underlying39 Try.underlying5 (by kernel_rfl) h2
      exact ⟨⟨A, z, B, a, c⟩, rfl, hA, hB⟩
theorem good_files {w : World} {fuel : Nat} {v : Value} (h : Agg.Good Try.prog w fuel 35 [v]) : ∃ l : List FileV, Files w v l := by
  obtain ⟨l, h1, h2, _⟩ := good_sl (α := FileV) Try.underlying35 (sz := 3) (by kernel_rfl) fiC (fun f => Ints w f.va f.at_ ∧ Bytes w f.vb f.bytes) (fun _ => rfl) (fun fu cs hg => by
    obtain ⟨f, h1, h2, h3⟩ := good_file hg
    exact ⟨f, h1, h2, h3⟩) h
  exact ⟨l, h1, fun f hf => h2 f hf⟩
theorem good_pg {w : World} {fuel : Nat} {cs : List Value} (h : Agg.Good Try.prog w fuel 83 cs) : ∃ p : PgD, cs = pgC p ∧ p.Ok ∧ (Lit.int .i64 p.page).wf = true := by
  have hf := good_fits fuel 5 83 [some .i64, some .u8, some .u64, some .u64, some .u64, some .u64] cs (by kernel_rfl) h
  obtain ⟨x, r, rfl, ⟨a, rfl, ha⟩, hf2⟩ := hf.cons
  obtain ⟨x5, r5, rfl, ⟨z5, rfl, h5⟩, hf3⟩ := hf2.cons
  obtain ⟨x1, r1, rfl, ⟨z1, rfl, h1⟩, hf4⟩ := hf3.cons
  obtain ⟨x2, r2, rfl, ⟨z2, rfl, h2⟩, hf5⟩ := hf4.cons
  obtain ⟨x3, r3, rfl, ⟨z3, rfl, h3⟩, hf6⟩ := hf5.cons
  obtain ⟨x4, r4, rfl, ⟨z4, rfl, h4⟩, hf7⟩ := hf6.cons
  rw [hf7.nil]
  obtain ⟨n1, rfl, l1⟩ := u64_nat h1
  obtain ⟨n2, rfl, l2⟩ := u64_nat h2
  obtain ⟨n3, rfl, l3⟩ := u64_nat h3
  obtain ⟨n4, rfl, l4⟩ := u64_nat h4
  obtain ⟨b, rfl⟩ := u8_byte h5
  refine ⟨⟨a, b, [n1, n2, n3, n4]⟩, rfl, ⟨rfl, fun s hs => ?_⟩, ha⟩
  simp only [List.mem_cons, List.not_mem_nil, or_false] at hs
  rcases hs with rfl | rfl | rfl | rfl <;> assumption
theorem good_pgs {w : World} {fuel : Nat} {v : Value} (h : Agg.Good Try.prog w fuel 36 [v]) : ∃ l : List PgD, PgsD w v l ∧ (∀ p ∈ l, p.Ok) ∧ ∀ p ∈ l, (Lit.int .i64 p.page).wf = true := by
  obtain ⟨l, h1, h2, _⟩ := good_sl (α := {p : PgD // p.Ok}) Try.underlying36 (sz := 6) (by kernel_rfl) (fun p => pgC p.1) (fun p => (Lit.int .i64 p.1.page).wf = true) (fun p => pgC_length p.2) (fun fu cs hg => by
    obtain ⟨p, h1, h2, h3⟩ := good_pg hg
    exact ⟨⟨p, h2⟩, h1, h3⟩) h
  refine ⟨l.map (·.1), ?_, fun p hp => ?_, fun p hp => ?_⟩
  · show SlR _ _ _ _ _
    rw [List.length_map, List.flatMap_map]; exact h1
  · obtain ⟨x, _, rfl⟩ := List.mem_map.1 hp
    exact x.2
  · obtain ⟨x, hx, rfl⟩ := List.mem_map.1 hp
    exact h2 x hx
set_option maxRecDepth 100000 in
theorem good_disk {w : World} {fuel : Nat} {c : Array Value} (h : Agg.Good Try.prog w fuel 38 c.toList) : ∃ (x : DiskD) (fv hv cv : Value), c = (diskC x fv hv cv).toArray ∧ DiskOk x ∧ Files w fv x.files ∧ PgsD w hv x.held ∧ PgsD w cv x.cache := by
  cases fuel with
  | zero => exact h.elim
  | succ n =>
    unfold Agg.Good at h
    rw [Try.underlying38] at h
    simp only at h
    obtain ⟨hl, hf⟩ := h
    have h0 : Agg.Good Try.prog w n 3 ((c.toList.drop 0).take (Try.prog.cellsOf 3)) := hf 0 _ rfl
    have h1 : Agg.Good Try.prog w n 35 ((c.toList.drop 1).take (Try.prog.cellsOf 35)) := hf 1 _ rfl
    have h2 : Agg.Good Try.prog w n 36 ((c.toList.drop 2).take (Try.prog.cellsOf 36)) := hf 2 _ rfl
    have h3 : Agg.Good Try.prog w n 36 ((c.toList.drop 3).take (Try.prog.cellsOf 36)) := hf 3 _ rfl
    have h4 : Agg.Good Try.prog w n 3 ((c.toList.drop 4).take (Try.prog.cellsOf 3)) := hf 4 _ rfl
    have h5 : Agg.Good Try.prog w n 4 ((c.toList.drop 5).take (Try.prog.cellsOf 4)) := hf 5 _ rfl
    have e0 : Try.prog.cellsOf 3 = 1 := by kernel_rfl
    have e1 : Try.prog.cellsOf 35 = 1 := by kernel_rfl
    have e3 : Try.prog.cellsOf 36 = 1 := by kernel_rfl
    have e4 : Try.prog.cellsOf 4 = 1 := by kernel_rfl
    have e2 : Try.prog.cellsOf 38 = 6 := by kernel_rfl
    rw [e0] at h0 h4
    rw [e1] at h1
    rw [e3] at h2 h3
    rw [e4] at h5
    rw [e2] at hl
    obtain ⟨l, hcl⟩ : ∃ l, l = c.toList := ⟨_, rfl⟩
    rw [← hcl] at hl h0 h1 h2 h3 h4 h5
    match l, hl with
    | [a, b, b2, b3, f, o], _ =>
      obtain ⟨z, rfl, _⟩ := good_int h0
      obtain ⟨l1, hl1⟩ := good_files h1
      obtain ⟨l2, hl2, ho2, _⟩ := good_pgs h2
      obtain ⟨l3, hl3, ho3, hn3⟩ := good_pgs h3
      obtain ⟨fu, rfl, _⟩ := good_int h4
      obtain ⟨q, rfl⟩ := good_bool h5
      exact ⟨⟨z, l1, l2, l3, fu, q⟩, b, b2, b3, (Array.toList_inj.1 hcl).symm, ⟨ho2, ho3, hn3⟩, hl1, hl2, hl3⟩
theorem good_filA {w : World} {fuel : Nat} {c : Array Value} (h : Agg.Good Try.prog w fuel 41 c.toList) : ∃ (fa : List Int) (fk : Int) (fb : List UInt8) (va vb : Value), c = #[va, .int .i64 fk, vb] ∧ Ints w va fa ∧ Bytes w vb fb := by
  obtain ⟨f, h1, h2, h3⟩ := good_file h
  exact ⟨f.at_, f.kind, f.bytes, f.va, f.vb, Array.toList_inj.1 h1, h2, h3⟩
end Go.Proofs.Ytgfmpkcgkjpgnaa
end
section
/-
  THE LAW FilePuts over arguments that are read as data.
-/
namespace Go.Proofs.Ytgfmpkcgkjpgnaa
open Go.ChangeShapes Go.WideShapes Go.ChangeAt Go.RowKit Agg Pg Dv Fi
theorem FilePuts_walk (c0 : Array Value) (f0 : Nat) (c1 : Array Value) (f1 : Nat) (n : Int) (w : World) (h0 : Agg.Good Try.prog w f0 38 c0.toList) (h1 : Agg.Good Try.prog w f1 41 c1.toList) (hn : (Lit.int .u64 n).wf = true) :
    Calls Try.prog 5 #[.agg c0, .agg c1, .int .u64 n] w fun e w' => e = .returned (.bool true) ∧ Below w.heap.size w w' := by
  obtain ⟨x, fv, hv, cv, rfl, hx, hf, hh, hc⟩ := good_disk h0
  obtain ⟨fa, fk, fb, va, vb, rfl, ha, hb⟩ := good_filA h1
  obtain ⟨m, rfl, hm⟩ := u64_nat hn
  exact puts_walk x fv hv cv hx fa fk fb va vb m hm w hf hh hc ha hb
end Go.Proofs.Ytgfmpkcgkjpgnaa
end
