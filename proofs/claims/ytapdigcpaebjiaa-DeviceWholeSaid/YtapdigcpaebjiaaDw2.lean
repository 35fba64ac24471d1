/-
  DEVICES: wakes.
-/
import Derived.Test.YtapdigcpaebjiaaDw1
namespace Go.Proofs.Ytapdigcpaebjiaa
open Go.ChangeShapes Go.WideShapes Go.ChangeAt Go.RowKit Agg Pg Dv

def fa : Fl := ⟨3, [1, 1, 1, 1], 10⟩
def fb : Fl := ⟨3, [2, 2, 2, 2], 20⟩
theorem fa_ok : fa.Ok := ⟨rfl, by decide⟩
theorem fb_ok : fb.Ok := ⟨rfl, by decide⟩
def zsec : Sec := (0, List.replicate 32 0)
theorem wk (a0 a1 a2 a3 b0 b1 b2 b3 : Sec) : ∃ D1 D2 D3 L F : Dev, goesP (newD 24) (putP (newD 24) 3 [a0, a1, a2, a3]) = (0, D1) ∧ goesP D1 (putP D1 3 [b0, b1, b2, b3]) = (0, D2) ∧ readP D2 3 = (0, [b0, b1, b2, b3]) ∧ crashP D2 [1, 2] = (0, D3) ∧ readP D3 3 = (0, [a0, b1, zsec, zsec]) ∧
    goesP D3 (lightP D3 0) = (0, L) ∧ goesP L (flushP L) = (10, F) ∧ rightD D3 = true ∧ D1.cache.length = 1 ∧ D2.cache.length = 2 ∧ D3.cache.length = 0 ∧ L.cache.length = 0 :=
  ⟨_, _, _, _, _, rfl, rfl, rfl, rfl, rfl, rfl, rfl, rfl, rfl, rfl, rfl, rfl⟩
theorem build_ab (w : World) : (Instr.build 46 #[(0, .agg (secC (fillSec fa 0)).toArray), (1, .agg (secC (fillSec fb 1)).toArray)]).run Try.prog w = .ok (.agg (blkC [fillSec fa 0, fillSec fb 1, zsec, zsec]).toArray) w := by kernel_rfl
theorem DevO.offs {base g : Nat} {w w' : World} {v : Value} {d : Dev} (h : DevO base w v d) (hg : w.grownBy w' (some g)) (hl : g < base) : DevO base w' v d := by
  obtain ⟨p, c, h1, h2, h3⟩ := h
  exact ⟨p, c, h1, h2.kept hg (own_off h2 hl), h3.kept hg (own_off h3 hl)⟩
set_option maxHeartbeats 4000000 in
set_option maxRecDepth 100000 in
theorem wakes_any (w : World) :
    Calls Try.prog 9 #[] w fun e w' => e = .returned (.bool true) ∧ Below w.heap.size w w' := by
  obtain ⟨D1, D2, D3, L, F, e1, e2, e3, e4, e5, e6, e7, e8, c1, c2, c3, c4⟩ := wk (fillSec fa 0) (fillSec fa 1) (fillSec fa 2) (fillSec fa 3) (fillSec fb 0) (fillSec fb 1) (fillSec fb 2) (fillSec fb 3)
  obtain ⟨a, ha⟩ : ∃ a, fillB fa = a := ⟨_, rfl⟩
  obtain ⟨b, hb⟩ : ∃ b, fillB fb = b := ⟨_, rfl⟩
  have hao : BOk a := ha ▸ fillB_bok fa_ok
  have hbo : BOk b := hb ▸ fillB_bok fb_ok
  rw [show [fillSec fa 0, fillSec fa 1, fillSec fa 2, fillSec fa 3] = a from ha] at e1
  rw [show [fillSec fb 0, fillSec fb 1, fillSec fb 2, fillSec fb 3] = b from hb] at e2 e3
  obtain ⟨s, hs⟩ : ∃ s, [fillSec fa 0, fillSec fb 1, zsec, zsec] = s := ⟨_, rfl⟩
  rw [hs] at e5
  obtain ⟨D0, hD0⟩ : ∃ D0, newD 24 = D0 := ⟨_, rfl⟩
  have G0 : DGood D0 := hD0 ▸ newD_good (by decide)
  rw [hD0] at e1
  have G1 : DGood D1 := by have := goesP_good G0 (putP_good G0 3 hao); rwa [e1] at this
  have G2 : DGood D2 := by have := goesP_good G1 (putP_good G1 3 hbo); rwa [e2] at this
  have G3 : DGood D3 := by have := crashP_good G2 [1, 2]; rwa [e4] at this
  have GL : DGood L := by have := goesP_good G3 (lightP_good G3 0); rwa [e6] at this
  have c0 : D0.cache.length ≤ 1000000 := by rw [← hD0]; decide
  have hso : BOk s := by
    rw [← hs]
    refine ⟨rfl, fun x hx => ?_⟩
    simp only [List.mem_cons, List.not_mem_nil, or_false] at hx
    rcases hx with rfl | rfl | rfl | rfl
    · exact ⟨by simp [fillSec], getD_lt fa_ok 0⟩
    · exact ⟨by simp [fillSec], getD_lt fb_ok 1⟩
    · exact ⟨by simp [zsec], by decide⟩
    · exact ⟨by simp [zsec], by decide⟩
  have HBA : Hid (∀ W, Calls Try.prog 18 #[.agg #[.int .i64 3, .int .u64 1, .int .u64 1, .int .u64 1, .int .u64 1, .int .u8 10]] W fun e w' => e = .returned (.agg (blkC a).toArray) ∧ Below W.heap.size W w') := Lib.hid (fun W => by have := block_any fa fa_ok W; rw [ha] at this; exact this)
  have HBB : Hid (∀ W, Calls Try.prog 18 #[.agg #[.int .i64 3, .int .u64 2, .int .u64 2, .int .u64 2, .int .u64 2, .int .u8 20]] W fun e w' => e = .returned (.agg (blkC b).toArray) ∧ Below W.heap.size W w') := Lib.hid (fun W => by have := block_any fb fb_ok W; rw [hb] at this; exact this)
  have HN : Hid (∀ W, Calls Try.prog 14 #[.int .i64 24] W fun e w' => ∃ u, e = .returned (.tuple #[u, .int .i64 0]) ∧ DevO W.heap.size w' u D0 ∧ Below W.heap.size W w') := Lib.hid (fun W => by have := new_R 24 (by decide) (by decide) W; rw [hD0] at this; exact this)
  have HP1 : Hid (∀ W v, DevR W v D0 → Calls Try.prog 25 #[v, .int .i64 3, .agg (blkC a).toArray] W fun e w' => ∃ u, e = .returned (.tuple #[u, .int .i64 0]) ∧ DevO W.heap.size w' u D1 ∧ Below W.heap.size W w') := Lib.hid (fun W v hv => by have := put_R G0 c0 hv 3 hao; rw [e1] at this; exact this)
  have HP2 : Hid (∀ W v, DevR W v D1 → Calls Try.prog 25 #[v, .int .i64 3, .agg (blkC b).toArray] W fun e w' => ∃ u, e = .returned (.tuple #[u, .int .i64 0]) ∧ DevO W.heap.size w' u D2 ∧ Below W.heap.size W w') := Lib.hid (fun W v hv => by have := put_R G1 (by omega) hv 3 hbo; rw [e2] at this; exact this)
  have HR2 : Hid (∀ W v, DevR W v D2 → Calls Try.prog 16 #[v, .int .i64 3] W fun e w' => e = .returned (.tuple #[.agg (blkC b).toArray, .int .i64 0]) ∧ Below W.heap.size W w') := Lib.hid (fun W v hv => by have := read_R G2 (by omega) hv 3; rw [e3] at this; exact this)
  have HC : Hid (∀ W v mv, DevR W v D2 → Ints W mv [1, 2] → Calls Try.prog 22 #[v, mv] W fun e w' => ∃ u, e = .returned (.tuple #[u, .int .i64 0]) ∧ DevO W.heap.size w' u D3 ∧ Below W.heap.size W w') := Lib.hid (fun W v mv hv hm => by have := crash_R G2 (by omega) hv (by decide) hm; rw [e4] at this; exact this)
  have HR3 : Hid (∀ W v, DevR W v D3 → Calls Try.prog 16 #[v, .int .i64 3] W fun e w' => e = .returned (.tuple #[.agg (blkC s).toArray, .int .i64 0]) ∧ Below W.heap.size W w') := Lib.hid (fun W v hv => by have := read_R G3 (by omega) hv 3; rw [e5] at this; exact this)
  have HLI : Hid (∀ W v, DevR W v D3 → Calls Try.prog 24 #[v, .int .i64 0] W fun e w' => ∃ u, e = .returned (.tuple #[u, .int .i64 0]) ∧ DevO W.heap.size w' u L ∧ Below W.heap.size W w') := Lib.hid (fun W v hv => by have := light_R G3 (by omega) hv 0; rw [e6] at this; exact this)
  have HFL : Hid (∀ W v, DevR W v L → Calls Try.prog 23 #[v] W fun e w' => ∃ u, e = .returned (.tuple #[u, .int .i64 10]) ∧ DevO W.heap.size w' u F ∧ Below W.heap.size W w') := Lib.hid (fun W v hv => by have := flush_R GL (by omega) hv; rw [e7] at this; exact this)
  have HCK : Hid (∀ W v, DevR W v D3 → Calls Try.prog 20 #[v] W fun e w' => e = .returned (.int .i64 0) ∧ Below W.heap.size W w') := Lib.hid (fun W v hv => by have := check_R G3 hv; rw [e8] at this; exact this)
  have HC0 : Hid (∀ W, Calls Try.prog 20 #[.agg #[.slice none 0 0, .slice none 0 0, .int .i64 0, .bool false]] W fun e w' => e = .returned (.int .i64 260) ∧ Below W.heap.size W w') := Lib.hid (fun W => by have := check_R dev0_good (devR_zero W); exact this)
  have HAO := Lib.hid hao
  have HBO := Lib.hid hbo
  have HSO := Lib.hid hso
  have HSA := Lib.hid hs
  have HAA := Lib.hid ha
  have HAB := Lib.hid hb
  clear e1 e2 e3 e4 e5 e6 e7 e8 c0 c1 c2 c3 c4 ha hb hao hbo hs hso hD0 G0 G1 G2 G3 GL
  have HB := Lib.hid (Below.refl w.heap.size w)
  go_enter Try.func9, Try.ntmps9
  go_wp2_with fail
  refine (HN.out w).mono ?_
  rintro e w1 ⟨u, rfl, hu, hb⟩
  replace HB := Lib.hid (HB.out.trans (hb.mono HB.out.size))
  clear hb
  have HU := Lib.hid hu.read
  obtain ⟨px, pc, cx, cc, rfl⟩ := DevR.shape HU.out
  clear hu
  have HG1 : Hid (w.heap.size ≤ w1.heap.size) := Lib.hid HB.out.size
  go_upto_region 2 with (fail)
  refine Agg.wp_at fun w2 hw2 => ?_
  have hb : Below w1.heap.size w1 w2 := by rw [hw2.out]; repeat (first | exact Below.refl _ _ | refine Agg.bel_drew ?_ | refine Agg.bel_alloc ?_ _)
  replace HB := Lib.hid (HB.out.trans (hb.mono HB.out.size))
  replace HU := Lib.hid (HU.out.keep hb)
  clear hb
  have H1 : Hid (Blk w2 w1.heap.size 36 [.slice px D0.pages.length pc, .slice cx D0.cache.length cc, .int .i64 D0.fuse, .bool D0.off]) := by show Blk _ _ _ _; rw [hw2.out]; exact Blk.new w1 36 #[.slice px D0.pages.length pc, .slice cx D0.cache.length cc, .int .i64 D0.fuse, .bool D0.off]
  clear hw2
  generalize w1.heap.size = g1 at *
  go_wp2_with fail
  refine (HBA.out w2).mono ?_
  rintro e w3 ⟨rfl, hb⟩
  replace HB := Lib.hid (HB.out.trans (hb.mono HB.out.size))
  replace HU := Lib.hid (HU.out.keep hb)
  replace H1 := Lib.hid (H1.out.keep hb)
  clear hb
  go_wp2_with fail
  refine (HBB.out w3).mono ?_
  rintro e w4 ⟨rfl, hb⟩
  replace HB := Lib.hid (HB.out.trans (hb.mono HB.out.size))
  replace HU := Lib.hid (HU.out.keep hb)
  replace H1 := Lib.hid (H1.out.keep hb)
  clear hb
  have l1p := H1.out.lt
  have hla := bok_cells HAO.out
  have hlb := bok_cells HBO.out
  obtain ⟨zz, hzz⟩ : ∃ z, z = (blkC zeroB).toArray := ⟨_, rfl⟩
  have hz132 : zz.toList.length = 132 := by rw [hzz]; exact zero132
  go_upto_region 3 with (first
    | (refine Agg.allocRow 46 zz rfl rfl (by rw [hzz]; kernel_rfl) ?_; simp only [Act.put, List.setIfInBounds_toArray, List.set_cons_succ, List.set_cons_zero])
    | (refine Agg.gStoreB (b := w4.heap.size) 132 (blkC a) ((Blk.new w4 46 zz).al (.cells zz 46)) rfl rfl rfl rfl rfl (by decide +kernel) hz132 hla (blkC_one _) (fun w14 hb14 hg14 => ?_))
    | (refine Agg.gStoreB (b := (w4.alloc (.cells zz 46)).heap.size) 132 (blkC b) ((Blk.new (w4.alloc (.cells zz 46)) 46 zz).far' hg14 (by simp)) rfl rfl rfl rfl rfl (by decide +kernel) hz132 hlb (blkC_one _) (fun w15 hb15 hg15 => ?_)))
  have hbX : Below w4.heap.size w4 w15 := ((((Below.refl _ w4).alloc (Nat.le_refl _) _).alloc (by simp) _).trans (grown_below hg14 (by simp; omega) (fun j hj => by cases hj; exact Nat.le_refl _))).trans (grown_below hg15 (Nat.le_trans (by simp; omega) hg14.size) (fun j hj => by cases hj; simp))
  have ha15 := hb14.far' hg15 (by simp)
  replace HB := Lib.hid (HB.out.trans (hbX.mono HB.out.size))
  replace HU := Lib.hid (HU.out.keep hbX)
  replace H1 := Lib.hid (H1.out.keep hbX)
  have H3 := Lib.hid ha15
  have H4 := Lib.hid hb15
  obtain ⟨g3, hg3⟩ : ∃ g, w4.heap.size = g := ⟨_, rfl⟩
  obtain ⟨g4, hg4⟩ : ∃ g, (w4.alloc (.cells zz 46)).heap.size = g := ⟨_, rfl⟩
  have hne3 : g1 < g3 := by omega
  have hne4 : g1 < g4 := by rw [← hg4]; simp; omega
  rw [hg3] at H3 ⊢
  rw [hg4] at H4 ⊢
  clear hg3 hg4 hb14 hb15 hg14 hg15 ha15 hbX l1p
  have hg1 := HG1.out
  clear hz132 hzz
  have xH1_0 := H1.out.cell 0
  have xH1_1 := H1.out.cell 1
  have xH1_2 := H1.out.cell 2
  have xH1_3 := H1.out.cell 3
  have lH1 := H1.out.lt
  simp only [List.getElem?_cons_zero, List.getElem?_cons_succ] at xH1_0 xH1_1 xH1_2 xH1_3
  go_wp2_with (first
    | (refine Agg.gLoadB 132 H3.out hla rfl rfl rfl (by decide +kernel) ?_; simp only [Act.put, List.setIfInBounds_toArray, List.set_cons_succ, List.set_cons_zero]))
  have l1c := H1.out.lt
  clear xH1_0 xH1_1 xH1_2 xH1_3 lH1
  refine (HP1.out w15 _ HU.out).mono ?_
  rintro e w21 ⟨u, rfl, hu, hb⟩
  replace HB := Lib.hid (HB.out.trans (hb.mono HB.out.size))
  replace HU := Lib.hid (HU.out.keep hb)
  replace H1 := Lib.hid (H1.out.keep hb)
  replace H3 := Lib.hid (H3.out.keep hb)
  replace H4 := Lib.hid (H4.out.keep hb)
  clear hb
  obtain ⟨px1, pc1, cx1, cc1, rfl⟩ := DevR.shape hu.read
  have h1 := H1.out
  go_upto_region 4 with (refine Agg.gStoreB 4 [.slice px1 D1.pages.length pc1, .slice cx1 D1.cache.length cc1, .int .i64 D1.fuse, .bool D1.off] h1 rfl rfl rfl rfl rfl (by decide +kernel) rfl rfl (by simp [Value.oneCell']) (fun wz1 hbz hgz => ?_); clear h1)
  have hz := hu.offs hgz l1c
  have hbz2 := HB.out.trans (grown_below hgz HB.out.size (fun j hj => by cases hj; exact hg1))
  have H3z := H3.out.far' hgz (by omega)
  have H4z := H4.out.far' hgz (by omega)
  replace HB := Lib.hid hbz2
  replace H1 := Lib.hid hbz
  replace HU := Lib.hid hz.read
  replace H3 := Lib.hid H3z
  replace H4 := Lib.hid H4z
  clear hbz2 hbz hgz hz hu l1c H3z H4z
  have xH1_0 := H1.out.cell 0
  have xH1_1 := H1.out.cell 1
  have xH1_2 := H1.out.cell 2
  have xH1_3 := H1.out.cell 3
  have lH1 := H1.out.lt
  simp only [List.getElem?_cons_zero, List.getElem?_cons_succ] at xH1_0 xH1_1 xH1_2 xH1_3
  go_wp2_with (first
    | (refine Agg.gLoadB 132 H4.out hlb rfl rfl rfl (by decide +kernel) ?_; simp only [Act.put, List.setIfInBounds_toArray, List.set_cons_succ, List.set_cons_zero]))
  have l1c := H1.out.lt
  clear xH1_0 xH1_1 xH1_2 xH1_3 lH1
  refine (HP2.out wz1 _ HU.out).mono ?_
  rintro e w22 ⟨u, rfl, hu, hb⟩
  replace HB := Lib.hid (HB.out.trans (hb.mono HB.out.size))
  replace HU := Lib.hid (HU.out.keep hb)
  replace H1 := Lib.hid (H1.out.keep hb)
  replace H3 := Lib.hid (H3.out.keep hb)
  replace H4 := Lib.hid (H4.out.keep hb)
  clear hb
  obtain ⟨px2, pc2, cx2, cc2, rfl⟩ := DevR.shape hu.read
  have h1 := H1.out
  go_upto_region 5 with (refine Agg.gStoreB 4 [.slice px2 D2.pages.length pc2, .slice cx2 D2.cache.length cc2, .int .i64 D2.fuse, .bool D2.off] h1 rfl rfl rfl rfl rfl (by decide +kernel) rfl rfl (by simp [Value.oneCell']) (fun wz2 hbz hgz => ?_); clear h1)
  have hz := hu.offs hgz l1c
  have hbz2 := HB.out.trans (grown_below hgz HB.out.size (fun j hj => by cases hj; exact hg1))
  have H3z := H3.out.far' hgz (by omega)
  have H4z := H4.out.far' hgz (by omega)
  replace HB := Lib.hid hbz2
  replace H1 := Lib.hid hbz
  replace HU := Lib.hid hz.read
  replace H3 := Lib.hid H3z
  replace H4 := Lib.hid H4z
  clear hbz2 hbz hgz hz hu l1c H3z H4z
  have xH1_0 := H1.out.cell 0
  have xH1_1 := H1.out.cell 1
  have xH1_2 := H1.out.cell 2
  have xH1_3 := H1.out.cell 3
  have lH1 := H1.out.lt
  simp only [List.getElem?_cons_zero, List.getElem?_cons_succ] at xH1_0 xH1_1 xH1_2 xH1_3
  go_wp2_with fail
  clear xH1_0 xH1_1 xH1_2 xH1_3 lH1
  refine (HR2.out wz2 _ HU.out).mono ?_
  rintro e w23 ⟨rfl, hb⟩
  replace HB := Lib.hid (HB.out.trans (hb.mono HB.out.size))
  replace HU := Lib.hid (HU.out.keep hb)
  replace H1 := Lib.hid (H1.out.keep hb)
  replace H3 := Lib.hid (H3.out.keep hb)
  replace H4 := Lib.hid (H4.out.keep hb)
  clear hb
  have hg7 := H1.out.lt
  go_upto_region 6 with (first
    | (refine Agg.allocRow 46 (blkC zeroB).toArray rfl rfl (by kernel_rfl) ?_; simp only [Act.put, List.setIfInBounds_toArray, List.set_cons_succ, List.set_cons_zero])
    | (refine Agg.gStoreNew 132 (blkC b) rfl rfl rfl rfl rfl rfl (by decide +kernel) hlb zero132 (blkC_one _) ?_; simp only [Act.put]))
  refine Agg.wp_at fun w24 hw24 => ?_
  have hb : Below w23.heap.size w23 w24 := by rw [hw24.out]; repeat (first | exact Below.refl _ _ | refine Agg.bel_drew ?_ | refine Agg.bel_alloc ?_ _)
  replace HB := Lib.hid (HB.out.trans (hb.mono HB.out.size))
  replace HU := Lib.hid (HU.out.keep hb)
  replace H1 := Lib.hid (H1.out.keep hb)
  replace H3 := Lib.hid (H3.out.keep hb)
  replace H4 := Lib.hid (H4.out.keep hb)
  clear hb
  have H7 : Hid (Blk w24 w23.heap.size 46 (blkC b)) := by show Blk _ _ _ _; rw [hw24.out]; exact Blk.new w23 46 (blkC b).toArray
  clear hw24
  generalize w23.heap.size = g7 at *
  have xH1_0 := H1.out.cell 0
  have xH1_1 := H1.out.cell 1
  have xH1_2 := H1.out.cell 2
  have xH1_3 := H1.out.cell 3
  have lH1 := H1.out.lt
  simp only [List.getElem?_cons_zero, List.getElem?_cons_succ] at xH1_0 xH1_1 xH1_2 xH1_3
  go_wp2_with fail
  refine Agg.calls_at fun w25 hw25 => ?_
  have hb : Below w24.heap.size w24 w25 := by rw [hw25.out]; repeat (first | exact Below.refl _ _ | refine Agg.bel_drew ?_ | refine Agg.bel_alloc ?_ _)
  replace HB := Lib.hid (HB.out.trans (hb.mono HB.out.size))
  replace HU := Lib.hid (HU.out.keep hb)
  replace H1 := Lib.hid (H1.out.keep hb)
  replace H3 := Lib.hid (H3.out.keep hb)
  replace H4 := Lib.hid (H4.out.keep hb)
  replace H7 := Lib.hid (H7.out.keep hb)
  clear hb
  have HMS : Hid (Ints w25 (.slice (some ⟨w24.heap.size, 0, none⟩) 2 2) [1, 2]) := by
    show SlR _ _ _ _ _
    rw [hw25.out]
    exact sl_new w24 #[.int .i64 1, .int .i64 2] 3 2 1 rfl (by decide)
  clear hw25
  have l1c := H1.out.lt
  clear xH1_0 xH1_1 xH1_2 xH1_3 lH1
  refine (HC.out w25 _ _ HU.out HMS.out).mono ?_
  rintro e w26 ⟨u, rfl, hu, hb⟩
  replace HB := Lib.hid (HB.out.trans (hb.mono HB.out.size))
  replace HU := Lib.hid (HU.out.keep hb)
  replace H1 := Lib.hid (H1.out.keep hb)
  replace H3 := Lib.hid (H3.out.keep hb)
  replace H4 := Lib.hid (H4.out.keep hb)
  replace H7 := Lib.hid (H7.out.keep hb)
  clear hb
  obtain ⟨px4, pc4, cx4, cc4, rfl⟩ := DevR.shape hu.read
  have h1 := H1.out
  go_upto_region 7 with (refine Agg.gStoreB 4 [.slice px4 D3.pages.length pc4, .slice cx4 D3.cache.length cc4, .int .i64 D3.fuse, .bool D3.off] h1 rfl rfl rfl rfl rfl (by decide +kernel) rfl rfl (by simp [Value.oneCell']) (fun wz4 hbz hgz => ?_); clear h1)
  have hz := hu.offs hgz l1c
  have hbz2 := HB.out.trans (grown_below hgz HB.out.size (fun j hj => by cases hj; exact hg1))
  have H3z := H3.out.far' hgz (by omega)
  have H4z := H4.out.far' hgz (by omega)
  have H7z := H7.out.far' hgz (by omega)
  replace HB := Lib.hid hbz2
  replace H1 := Lib.hid hbz
  replace HU := Lib.hid hz.read
  replace H3 := Lib.hid H3z
  replace H4 := Lib.hid H4z
  replace H7 := Lib.hid H7z
  clear hbz2 hbz hgz hz hu l1c H3z H4z H7z
  have hls := bok_cells HSO.out
  have xH1_0 := H1.out.cell 0
  have xH1_1 := H1.out.cell 1
  have xH1_2 := H1.out.cell 2
  have xH1_3 := H1.out.cell 3
  have lH1 := H1.out.lt
  simp only [List.getElem?_cons_zero, List.getElem?_cons_succ] at xH1_0 xH1_1 xH1_2 xH1_3
  go_wp2_with fail
  clear xH1_0 xH1_1 xH1_2 xH1_3 lH1
  refine (HR3.out wz4 _ HU.out).mono ?_
  rintro e w27 ⟨rfl, hb⟩
  replace HB := Lib.hid (HB.out.trans (hb.mono HB.out.size))
  replace HU := Lib.hid (HU.out.keep hb)
  replace H1 := Lib.hid (H1.out.keep hb)
  replace H3 := Lib.hid (H3.out.keep hb)
  replace H4 := Lib.hid (H4.out.keep hb)
  replace H7 := Lib.hid (H7.out.keep hb)
  clear hb
  have hg8 := H1.out.lt
  go_upto_region 8 with (first
    | (refine Agg.allocRow 46 (blkC zeroB).toArray rfl rfl (by kernel_rfl) ?_; simp only [Act.put, List.setIfInBounds_toArray, List.set_cons_succ, List.set_cons_zero])
    | (refine Agg.gStoreNew 132 (blkC s) rfl rfl rfl rfl rfl rfl (by decide +kernel) hls zero132 (blkC_one _) ?_; simp only [Act.put]))
  refine Agg.wp_at fun w28 hw28 => ?_
  have hb : Below w27.heap.size w27 w28 := by rw [hw28.out]; repeat (first | exact Below.refl _ _ | refine Agg.bel_drew ?_ | refine Agg.bel_alloc ?_ _)
  replace HB := Lib.hid (HB.out.trans (hb.mono HB.out.size))
  replace HU := Lib.hid (HU.out.keep hb)
  replace H1 := Lib.hid (H1.out.keep hb)
  replace H3 := Lib.hid (H3.out.keep hb)
  replace H4 := Lib.hid (H4.out.keep hb)
  replace H7 := Lib.hid (H7.out.keep hb)
  clear hb
  have H8 : Hid (Blk w28 w27.heap.size 46 (blkC s)) := by show Blk _ _ _ _; rw [hw28.out]; exact Blk.new w27 46 (blkC s).toArray
  clear hw28
  generalize w27.heap.size = g8 at *
  have xH1_0 := H1.out.cell 0
  have xH1_1 := H1.out.cell 1
  have xH1_2 := H1.out.cell 2
  have xH1_3 := H1.out.cell 3
  have lH1 := H1.out.lt
  simp only [List.getElem?_cons_zero, List.getElem?_cons_succ] at xH1_0 xH1_1 xH1_2 xH1_3
  go_wp2_with fail
  clear xH1_0 xH1_1 xH1_2 xH1_3 lH1
  refine (HLI.out w28 _ HU.out).mono ?_
  rintro e w29 ⟨u, rfl, hu, hb⟩
  replace HB := Lib.hid (HB.out.trans (hb.mono HB.out.size))
  replace HU := Lib.hid (HU.out.keep hb)
  replace H1 := Lib.hid (H1.out.keep hb)
  replace H3 := Lib.hid (H3.out.keep hb)
  replace H4 := Lib.hid (H4.out.keep hb)
  replace H7 := Lib.hid (H7.out.keep hb)
  replace H8 := Lib.hid (H8.out.keep hb)
  clear hb
  have HUL := Lib.hid hu.read
  obtain ⟨pxl, pcl, cxl, ccl, rfl⟩ := DevR.shape HUL.out
  clear hu
  go_upto_region 9 with (fail)
  refine Agg.wp_at fun w30 hw30 => ?_
  have hb : Below w29.heap.size w29 w30 := by rw [hw30.out]; repeat (first | exact Below.refl _ _ | refine Agg.bel_drew ?_ | refine Agg.bel_alloc ?_ _)
  replace HB := Lib.hid (HB.out.trans (hb.mono HB.out.size))
  replace HU := Lib.hid (HU.out.keep hb)
  replace H1 := Lib.hid (H1.out.keep hb)
  replace H3 := Lib.hid (H3.out.keep hb)
  replace H4 := Lib.hid (H4.out.keep hb)
  replace H7 := Lib.hid (H7.out.keep hb)
  replace H8 := Lib.hid (H8.out.keep hb)
  replace HUL := Lib.hid (HUL.out.keep hb)
  clear hb
  have H12 : Hid (Blk w30 w29.heap.size 36 [.slice pxl L.pages.length pcl, .slice cxl L.cache.length ccl, .int .i64 L.fuse, .bool L.off]) := by show Blk _ _ _ _; rw [hw30.out]; exact Blk.new w29 36 #[.slice pxl L.pages.length pcl, .slice cxl L.cache.length ccl, .int .i64 L.fuse, .bool L.off]
  clear hw30
  generalize w29.heap.size = g12 at *
  have xH12_0 := H12.out.cell 0
  have xH12_1 := H12.out.cell 1
  have xH12_2 := H12.out.cell 2
  have xH12_3 := H12.out.cell 3
  have lH12 := H12.out.lt
  simp only [List.getElem?_cons_zero, List.getElem?_cons_succ] at xH12_0 xH12_1 xH12_2 xH12_3
  go_wp2_with fail
  clear xH12_0 xH12_1 xH12_2 xH12_3 lH12
  refine (HFL.out w30 _ HUL.out).mono ?_
  rintro e w31 ⟨u, rfl, hu, hb⟩
  replace HB := Lib.hid (HB.out.trans (hb.mono HB.out.size))
  replace HU := Lib.hid (HU.out.keep hb)
  replace H1 := Lib.hid (H1.out.keep hb)
  replace H3 := Lib.hid (H3.out.keep hb)
  replace H4 := Lib.hid (H4.out.keep hb)
  replace H7 := Lib.hid (H7.out.keep hb)
  replace H8 := Lib.hid (H8.out.keep hb)
  replace HUL := Lib.hid (HUL.out.keep hb)
  replace H12 := Lib.hid (H12.out.keep hb)
  clear hb
  obtain ⟨pxf, pcf, cxf, ccf, rfl⟩ := DevR.shape hu.read
  clear hu
  go_upto_region 10 with (fail)
  refine Agg.wp_at fun w32 hw32 => ?_
  have hb : Below w31.heap.size w31 w32 := by rw [hw32.out]; repeat (first | exact Below.refl _ _ | refine Agg.bel_drew ?_ | refine Agg.bel_alloc ?_ _)
  replace HB := Lib.hid (HB.out.trans (hb.mono HB.out.size))
  replace HU := Lib.hid (HU.out.keep hb)
  replace H1 := Lib.hid (H1.out.keep hb)
  replace H3 := Lib.hid (H3.out.keep hb)
  replace H4 := Lib.hid (H4.out.keep hb)
  replace H7 := Lib.hid (H7.out.keep hb)
  replace H8 := Lib.hid (H8.out.keep hb)
  replace HUL := Lib.hid (HUL.out.keep hb)
  replace H12 := Lib.hid (H12.out.keep hb)
  clear hb
  clear hw32
  have HA0 : Hid (∀ i v, (secC (fillSec fa 0))[i]? = some v → w32.cell? ⟨g3, 0 + (0 : Int).toNat * 33 + i, none⟩ = some v) := Lib.hid (fun i v hi => by
    rw [H3.out.cell, ← HAA.out]
    have h := blkC_cell (fillB fa) (fillB_bok fa_ok).len 0 (by decide) [] i (by have := (List.getElem?_eq_some_iff.1 hi).1; rw [secC_length _ (by simp [fillSec])] at this; exact this)
    rw [List.append_nil] at h
    simpa [fillB] using h.trans hi)
  have HB1 : Hid (∀ i v, (secC (fillSec fb 1))[i]? = some v → w32.cell? ⟨g4, 0 + (1 : Int).toNat * 33 + i, none⟩ = some v) := Lib.hid (fun i v hi => by
    rw [H4.out.cell, ← HAB.out]
    have h := blkC_cell (fillB fb) (fillB_bok fb_ok).len 1 (by decide) [] i (by have := (List.getElem?_eq_some_iff.1 hi).1; rw [secC_length _ (by simp [fillSec])] at this; exact this)
    rw [List.append_nil] at h
    simpa [fillB] using h.trans hi)
  refine Agg.listR 55 (by kernel_rfl) ?_
  simp only [List.take_succ_cons, List.take_zero, List.drop_succ_cons, List.drop_zero]
  refine Agg.chMove rfl rfl rfl rfl ?_
  refine Agg.chEq true rfl rfl rfl rfl rfl rfl ?_
  refine Agg.chMove rfl rfl rfl rfl ?_
  refine Agg.chMove rfl rfl rfl rfl ?_
  refine Agg.chEq true rfl rfl rfl rfl rfl rfl ?_
  refine Agg.chPick rfl rfl rfl rfl rfl ?_
  refine Agg.chMove rfl rfl rfl rfl ?_
  refine Agg.chMove rfl rfl rfl rfl ?_
  refine Agg.chEq true rfl rfl rfl rfl rfl rfl ?_
  refine Agg.chPick rfl rfl rfl rfl rfl ?_
  refine Agg.chMove rfl rfl rfl rfl ?_
  refine Agg.chMove rfl rfl rfl rfl ?_
  refine Agg.chEq true rfl rfl rfl rfl rfl rfl ?_
  refine Agg.chPick rfl rfl rfl rfl rfl ?_
  refine Agg.chMove rfl rfl rfl rfl ?_
  refine Agg.chMove rfl rfl rfl rfl ?_
  refine Agg.chEq true rfl rfl rfl rfl rfl rfl ?_
  refine Agg.chPick rfl rfl rfl rfl rfl ?_
  refine Agg.chMove rfl rfl rfl rfl ?_
  refine Agg.chMove rfl rfl rfl rfl ?_
  refine Agg.chEq true rfl rfl rfl rfl rfl rfl ?_
  refine Agg.chPick rfl rfl rfl rfl rfl ?_
  refine Agg.chMove rfl rfl rfl rfl ?_
  refine Agg.chMove rfl rfl rfl rfl ?_
  refine Agg.chEq true rfl rfl rfl rfl rfl rfl ?_
  refine Agg.chPick rfl rfl rfl rfl rfl ?_
  refine Agg.chMove rfl rfl rfl rfl ?_
  refine Agg.chMove rfl rfl rfl rfl ?_
  refine Agg.chEq true rfl rfl rfl rfl rfl rfl ?_
  refine Agg.chPick rfl rfl rfl rfl rfl ?_
  refine Agg.chMove rfl rfl rfl rfl ?_
  refine Agg.chRowB 132 H7.out hlb (by decide +kernel) rfl rfl rfl rfl ?_
  refine Agg.chRowB 132 H4.out hlb (by decide +kernel) rfl rfl rfl rfl ?_
  refine Agg.chBin (v := .bool true) rfl rfl rfl rfl rfl (fun w => flatBlk.gd .eql _ _ _ _ w) (fun w => blk_eql b b HBO.out HBO.out true (by simp) w) ?_
  refine Agg.chPick rfl rfl rfl rfl rfl ?_
  refine Agg.chMove rfl rfl rfl rfl ?_
  refine Agg.chRowB 132 H8.out hls (by decide +kernel) rfl rfl rfl rfl ?_
  refine Agg.chIAA aiBl (by omega) (by omega) rfl rfl rfl rfl rfl ?_
  refine Agg.chRowAt 33 (secC (fillSec fa 0)) (secC_length _ (by simp [fillSec])) (by decide +kernel) rfl rfl rfl rfl HA0.out ?_
  refine Agg.chIAA aiBl (by omega) (by omega) rfl rfl rfl rfl rfl ?_
  refine Agg.chRowAt 33 (secC (fillSec fb 1)) (secC_length _ (by simp [fillSec])) (by decide +kernel) rfl rfl rfl rfl HB1.out ?_
  refine Agg.chBuild (v := .agg (blkC s).toArray) rfl rfl rfl rfl (fun W => by rw [← HSA.out]; exact build_ab W) ?_
  refine Agg.chBin (v := .bool true) rfl rfl rfl rfl rfl (fun w => flatBlk.gd .eql _ _ _ _ w) (fun w => blk_eql s s HSO.out HSO.out true (by simp) w) ?_
  refine Agg.chPick rfl rfl rfl rfl rfl ?_
  refine Agg.chMove rfl rfl rfl rfl ?_
  refine Agg.chRowB 4 H1.out rfl (by decide +kernel) rfl rfl rfl rfl ?_
  refine Agg.chCall Try.func20 rfl (by kernel_rfl) rfl rfl rfl rfl (fun W hb => HCK.out W _ (HU.out.keep hb)) ?_
  refine Agg.chEq true rfl rfl rfl rfl rfl rfl ?_
  refine Agg.chPick rfl rfl rfl rfl rfl ?_
  refine Agg.chMove rfl rfl rfl rfl ?_
  refine Agg.chBuild (ps := []) (v := .agg #[.slice none 0 0, .slice none 0 0, .int .i64 0, .bool false]) rfl rfl rfl rfl (fun W => zero_dev W) ?_
  refine Agg.chCall Try.func20 rfl (by kernel_rfl) rfl rfl rfl rfl (fun W hb => HC0.out W) ?_
  refine Agg.chEq true rfl rfl rfl rfl rfl rfl ?_
  refine Agg.chPick rfl rfl rfl rfl rfl ?_
  refine Agg.chAssign rfl rfl rfl rfl ?_
  refine Agg.chEnd ?_
  intro vs w33 hb _
  show Exit.then _ _ Exit.normal _ _
  simp only [List.reverse, List.reverseAux, Agg.fill, List.set_cons_succ, List.set_cons_zero]
  replace HB := Lib.hid (HB.out.trans (hb.mono HB.out.size))
  replace HU := Lib.hid (HU.out.keep hb)
  replace H1 := Lib.hid (H1.out.keep hb)
  replace H3 := Lib.hid (H3.out.keep hb)
  replace H4 := Lib.hid (H4.out.keep hb)
  replace H7 := Lib.hid (H7.out.keep hb)
  replace H8 := Lib.hid (H8.out.keep hb)
  replace HUL := Lib.hid (HUL.out.keep hb)
  replace H12 := Lib.hid (H12.out.keep hb)
  clear hb
  go_wp2_with fail
  go_ret
  exact ⟨rfl, HB.out⟩
end Go.Proofs.Ytapdigcpaebjiaa
