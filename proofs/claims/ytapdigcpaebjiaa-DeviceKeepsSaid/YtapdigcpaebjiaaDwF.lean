/-
  THE WALK OF LAYER 16's STATEMENT DeviceKeeps.
-/
import Derived.Test.YtapdigcpaebjiaaDwB
import Derived.Test.YtapdigcpaebjiaaDwP
import Derived.Deep.CutBlock
namespace Go.Proofs.Ytapdigcpaebjiaa
open Go.ChangeShapes Go.WideShapes Go.ChangeAt Go.RowKit Agg Pg Dv

theorem aiK : AI Try.prog 56 46 24 132 := ⟨by kernel_rfl, by kernel_rfl⟩
theorem keep_len {P : List (List Sec)} (h : P.length = 24) (hP : ∀ b ∈ P, BOk b) : (P.flatMap blkC).length = 3168 := by rw [flat_len blkC 132 _ (fun b hb => bok_cells (hP b hb)), h]
theorem saidL_bok {d : Dev} (h : DGood d) : ∀ b ∈ saidL d, BOk b := by
  intro b hb
  obtain ⟨p, _, rfl⟩ := List.mem_map.1 hb
  exact saysP_bok h.pages h.cache _
theorem said_new : saidL (newD 24) = List.replicate 24 zeroB := saidL_nil (d := newD 24) (by simp [newD]) rfl
theorem new_keep : KeepI (newD 24) := ⟨by decide, by simp [newD], newD_good (by decide)⟩
theorem arrNe : 56 ≠ 36 := by decide
theorem arrNo : 56 ≠ 31 := by decide
/-- what a block of 24 rows holds at a place -/
theorem keep_at {w : World} {g : Nat} {P : List (List Sec)} (h : Blk w g 56 (P.flatMap blkC)) (hP : ∀ b ∈ P, BOk b) (p : Nat) (hp : p < P.length) : ∀ i v, (blkC P[p])[i]? = some v → w.cell? ⟨g, 0 + (p : Int).toNat * 132 + i, none⟩ = some v := by
  intro i v hv
  rw [h.cell, Int.toNat_natCast, Nat.zero_add]
  exact flat_cells blkC 132 (fun b hb => bok_cells (hP b hb)) p hp i v hv
theorem keep_put (P : List (List Sec)) (hP : ∀ b ∈ P, BOk b) (p : Nat) (h : p < P.length) (b : List Sec) (hb : BOk b) : spliced (P.flatMap blkC) (p * 132) (blkC b) = (P.set p b).flatMap blkC := by
  have := pgs_put P hP p h b hb []
  simpa using this
theorem opC_nil {o : OpD} (h : o.fl.Ok) (mv u : Value) : spliced (opC o mv) 8 [u] = opC { o with ms := [] } u := by
  have e : ∀ v, opC o v = (.int .i64 o.kind :: (flC o.fl ++ [.int .i64 o.n])) ++ [v] := fun v => by simp [opC]
  have hl : (Value.int .i64 o.kind :: (flC o.fl ++ [Value.int .i64 o.n])).length = 8 := by simp [flC_length h]
  show _ = opC o u
  rw [e, e, spliced, List.take_left' hl, List.drop_eq_nil_of_le (by simp [flC_length h])]; simp
/-- a device of its own in a variable -/
def DevA (w : World) (g : Nat) (d : Dev) : Prop := ∃ px pc cx cc, Blk w g 36 [.slice px d.pages.length pc, .slice cx d.cache.length cc, .int .i64 d.fuse, .bool d.off] ∧ DevO 0 w (.agg #[.slice px d.pages.length pc, .slice cx d.cache.length cc, .int .i64 d.fuse, .bool d.off]) d
theorem DevA.keep {w w' : World} {g : Nat} {d : Dev} (h : DevA w g d) (hb : Below w.heap.size w w') : DevA w' g d := by
  obtain ⟨px, pc, cx, cc, h1, h2⟩ := h
  exact ⟨px, pc, cx, cc, h1.keep hb, h2.keep hb⟩
theorem DevO.other {base : Nat} {w w' : World} {v : Value} {d : Dev} {t : Nat} {T : TypeId} {cs : List Value} (h : DevO base w v d) (hb : Blk w t T cs) (h1 : 46 ≠ T) (h2 : 48 ≠ T) (hg : w.grownBy w' (some t)) : DevO base w' v d := by
  obtain ⟨p, c, e, hp, hc⟩ := h
  exact ⟨p, c, e, hp.kept hg (own_apart hp hb h1), hc.kept hg (own_apart hc hb h2)⟩
theorem DevA.other {w w' : World} {g t : Nat} {d : Dev} {T : TypeId} {cs : List Value} (h : DevA w g d) (hb : Blk w t T cs) (h0 : g ≠ t) (h1 : 46 ≠ T) (h2 : 48 ≠ T) (hg : w.grownBy w' (some t)) : DevA w' g d := by
  obtain ⟨px, pc, cx, cc, h3, h4⟩ := h
  exact ⟨px, pc, cx, cc, h3.far' hg h0, h4.other hb h1 h2 hg⟩
theorem arrB : 46 ≠ 56 := by decide
theorem arrW : 48 ≠ 56 := by decide
theorem devB : 46 ≠ 36 := by decide
theorem devW : 48 ≠ 36 := by decide
theorem ints_nil (w : World) : Ints w (.slice none 0 0) [] := SlR.nil w 1
set_option maxHeartbeats 8000000 in
set_option maxRecDepth 100000 in
theorem keeps_walk (sx : Option Addr) (m cap : Nat) (l : List (OpD × Value)) (w : World) (hl : Opss w (.slice sx m cap) l) :
    Calls Try.prog 5 #[.slice sx m cap] w fun e w' => e = .returned (.bool true) ∧ Below w.heap.size w w' := by
  obtain ⟨_, _, hlx, _⟩ := hl.1.shape
  cases hlx
  have HL := Lib.hid hl
  have HL0 := HL
  clear hl
  have HB := Lib.hid (Below.refl w.heap.size w)
  go_enter Try.func5, Try.ntmps5
  go_wp2_with fail
  refine (wakes_any w).mono ?_
  rintro e w1 ⟨rfl, hb⟩
  replace HB := Lib.hid (HB.out.trans (hb.mono HB.out.size))
  replace HL := Lib.hid (HL.out.keep hb)
  clear hb
  go_wp2_with fail
  refine (new_R 24 (by decide) (by decide) w1).mono ?_
  rintro e w2 ⟨u, rfl, hu, hb⟩
  replace HB := Lib.hid (HB.out.trans (hb.mono HB.out.size))
  replace HL := Lib.hid (HL.out.keep hb)
  clear hb
  have HU : Hid (DevO 0 w2 u (newD 24)) := Lib.hid (hu.base (Nat.zero_le _))
  obtain ⟨px, pc, cx, cc, rfl⟩ := DevR.shape hu.read
  clear hu
  go_upto_region 4 with (fail)
  have HB0 := HB.out.size
  refine Agg.wp_at fun w3 hw3 => ?_
  have hb : Below w2.heap.size w2 w3 := by rw [hw3.out]; repeat (first | exact Below.refl _ _ | refine Agg.bel_drew ?_ | refine Agg.bel_alloc ?_ _)
  replace HB := Lib.hid (HB.out.trans (hb.mono HB.out.size))
  replace HL := Lib.hid (HL.out.keep hb)
  replace HU := Lib.hid (HU.out.keep hb)
  clear hb
  have h3l : w2.heap.size < w3.heap.size := (by rw [hw3.out]; simp)
  have H3 : Hid (DevA w3 w2.heap.size (newD 24)) := Lib.hid ⟨px, pc, cx, cc, (by rw [hw3.out]; exact Blk.new w2 36 #[.slice px (newD 24).pages.length pc, .slice cx (newD 24).cache.length cc, .int .i64 (newD 24).fuse, .bool (newD 24).off]), HU.out⟩
  clear hw3 HU
  have H3G : Hid (w.heap.size ≤ w2.heap.size) := Lib.hid HB0
  clear HB0
  generalize w2.heap.size = g3 at *
  have HB0 := HB.out.size
  go_upto_region 7 with (refine Agg.allocRow 56 ((List.replicate 24 zeroB).flatMap blkC).toArray rfl rfl (by kernel_rfl) ?_; simp only [Act.put, List.setIfInBounds_toArray, List.set_cons_succ, List.set_cons_zero])
  refine Agg.wp_at fun w4 hw4 => ?_
  have hb : Below w3.heap.size w3 w4 := by rw [hw4.out]; repeat (first | exact Below.refl _ _ | refine Agg.bel_drew ?_ | refine Agg.bel_alloc ?_ _)
  replace HB := Lib.hid (HB.out.trans (hb.mono HB.out.size))
  replace HL := Lib.hid (HL.out.keep hb)
  replace H3 := Lib.hid (H3.out.keep hb)
  clear hb
  have H5 : Hid (Blk w4 w3.heap.size 56 ((saidL (newD 24)).flatMap blkC)) := by rw [said_new]; show Blk _ _ _ _; rw [hw4.out]; exact (Blk.new w3 56 ((List.replicate 24 zeroB).flatMap blkC).toArray).al _
  have H6 : Hid (Blk w4 (w3.heap.size + 1) 56 ((newD 24).pages.flatMap blkC)) := by show Blk _ _ _ _; rw [hw4.out]; exact Blk.newAt (w3.alloc _) 56 ((List.replicate 24 zeroB).flatMap blkC).toArray _ (by simp)
  clear hw4
  rw [show (w3.alloc (.cells ((List.replicate 24 zeroB).flatMap blkC).toArray 56)).heap.size = w3.heap.size + 1 by simp]
  have H5G : Hid (w.heap.size ≤ w3.heap.size) := Lib.hid HB0
  have HNE : Hid (g3 ≠ w3.heap.size ∧ g3 ≠ w3.heap.size + 1) := Lib.hid ⟨by omega, by omega⟩
  clear HB0 h3l
  generalize w3.heap.size = g5 at *
  go_wp2_with fail
  go_loopw [25] (fun i wr => ∃ (k : Nat) (d : Dev), k ≤ l.length ∧ k ≤ 60 ∧ i = .int .i64 k ∧ KeepI d ∧ d.cache.length ≤ k ∧ Below w.heap.size w wr ∧ Opss wr (.slice sx l.length cap) l ∧ DevA wr g3 d ∧ Blk wr g5 56 ((saidL d).flatMap blkC) ∧ Blk wr (g5 + 1) 56 (d.pages.flatMap blkC)) (fun i _ => l.length - (intOf i).toNat)
  case atStart => exact ⟨0, newD 24, by omega, by omega, rfl, new_keep, Nat.le_refl _, HB.out, HL.out, H3.out, H5.out, H6.out⟩
  case round =>
    obtain ⟨k, d, hk, hk60, rfl, hgd, hcl, hb, h1, h2, h3, h4⟩ := hrel
    replace HB := Lib.hid hb
    replace HL := Lib.hid h1
    replace H3 := Lib.hid h2
    replace H5 := Lib.hid h3
    replace H6 := Lib.hid h4
    have HGD := Lib.hid hgd
    have HCL := Lib.hid hcl
    have HC6 : Hid (d.cache.length ≤ 1000000) := Lib.hid (by omega)
    clear hb h1 h2 h3 h4 hgd hcl
    obtain ⟨wA, hwA⟩ : ∃ x, x = wr := ⟨_, rfl⟩
    subst hwA
    obtain ⟨W0, hW0⟩ : ∃ x, x = wA := ⟨_, rfl⟩
    have HFR : Hid (From W0 wA) := Lib.hid (by rw [hW0]; exact Below.refl _ _)
    have HBA : Hid (Below w.heap.size w W0) := Lib.hid (by rw [hW0]; exact HB.out)
    have HLA : Hid (Opss W0 (.slice sx l.length cap) l) := Lib.hid (by rw [hW0]; exact HL.out)
    have H3A : Hid (DevA W0 g3 d) := Lib.hid (by rw [hW0]; exact H3.out)
    have H5A : Hid (Blk W0 g5 56 ((saidL d).flatMap blkC)) := Lib.hid (by rw [hW0]; exact H5.out)
    have H6A : Hid (Blk W0 (g5 + 1) 56 (d.pages.flatMap blkC)) := Lib.hid (by rw [hW0]; exact H6.out)
    clear hW0 H3 H5 H6
    by_cases hlt : k < l.length
    · obtain ⟨lb, lo, cap', hve, _, _, hcs, _⟩ := SlR.pos HL.out.1 (by decide) (by omega)
      simp only [Value.slice.injEq, true_and] at hve
      obtain ⟨rfl, rfl⟩ := hve
      have HO := Lib.hid (HL.out.2 _ (List.getElem_mem hlt))
      have HOA := Lib.hid (HLA.out.2 _ (List.getElem_mem hlt))
      have HOC := Lib.hid (opC_length HO.out.1.1 l[k].2)
      have hrow := opss_at HL.out hlt
      generalize l[k] = om at *
      obtain ⟨o, mv⟩ := om
      dsimp only at *
      have hone := opC_one' HO.out.2.1
      have hoc := HOC.out
      go_upto_region 10 with (first
        | (refine Agg.gLoad 9 (opC o mv) rfl rfl rfl (by decide +kernel) hoc hrow ?_; simp only [Act.put, List.setIfInBounds_toArray, List.set_cons_succ, List.set_cons_zero])
        | (refine Agg.allocRow 31 op0.toArray rfl rfl (by kernel_rfl) ?_; simp only [Act.put, List.setIfInBounds_toArray, List.set_cons_succ, List.set_cons_zero])
        | (refine Agg.gStoreNew 9 (opC o mv) rfl rfl rfl rfl rfl rfl (by decide +kernel) hoc op0_size hone ?_; simp only [Act.put]))
      have hfs := HFR.out.size
      refine Agg.wp_at fun w31 hw31 => ?_
      have hb : Below wA.heap.size wA w31 := by rw [hw31.out]; repeat (first | exact Below.refl _ _ | refine Agg.bel_drew ?_ | refine Agg.bel_alloc ?_ _)
      replace HB := Lib.hid (HB.out.trans (hb.mono HB.out.size))
      replace HL := Lib.hid (HL.out.keep hb)
      replace HFR := Lib.hid (HFR.out.keep hb)
      replace HO := Lib.hid (HO.out.keep hb)
      clear hb
      have HOB : Hid (Blk w31 wA.heap.size 31 (opC o mv)) := by show Blk _ _ _ _; rw [hw31.out]; exact Blk.new wA 31 (opC o mv).toArray
      have HOG : Hid (W0.heap.size ≤ wA.heap.size) := Lib.hid hfs
      clear hw31 hrow hone hoc hfs
      generalize wA.heap.size = go at *
      by_cases h60 : k = 60
      · subst h60
        go_wp2_with fail
        go_ret
        exact ⟨rfl, HB.out⟩
      · have h60b : ((k : Int) == 60) = false := by simp; omega
        have h60l : k < 60 := by omega
        have hk0 : w31.cell? ⟨go, 0, none⟩ = some (.int .i64 o.kind) := by have h := HOB.out.cell 0; rw [h]; exact opC_kind mv
        go_upto_region 12 with (fail)
        rw [kindN_eq]
        clear hk0
        obtain ⟨K, hK⟩ : ∃ K, kindN o.kind = K := ⟨_, rfl⟩
        have hK5 : K < 5 := by rw [← hK]; exact kindN_lt _
        rw [hK]
        have HK := Lib.hid hK
        clear hK
        go_upto_if 37 with (fail)
        obtain ⟨q4, hq4⟩ : ∃ q : Bool, ((K : Int) == 4) = q := ⟨_, rfl⟩
        rw [hq4]
        have HQ4 := Lib.hid hq4
        clear hq4
        go_cut [] from 38 to 38 (fun wx => ∃ (o2 : OpD) (mv2 : Value), Blk wx go 31 (opC o2 mv2) ∧ OpOk W0 o2 mv2 ∧ kindN o2.kind = K ∧ (K = 4 → o2.ms = []) ∧ From W0 wx)
        case first =>
          cases q4
          · have hk4 : K ≠ 4 := by have h := HQ4.out; simp at h; omega
            go_wp2_with fail
            go_meet
            exact ⟨o, mv, HOB.out, HOA.out, HK.out, fun e => absurd e hk4, HFR.out⟩
          · have hob := HOB.out
            have hoc := HOC.out
            go_wp2_with (refine Agg.gStoreCell 8 (.slice none 0 0) hob rfl rfl rfl rfl rfl (by kernel_rfl) rfl (by rw [hoc]; decide) rfl (fun w12 hb12 hg12 => ?_))
            rw [opC_nil HO.out.1.1] at hb12
            go_meet
            exact ⟨{ o with ms := [] }, .slice none 0 0, hb12, ⟨HOA.out.1, ints_nil _, HOA.out.2.2⟩, HK.out, fun _ => rfl, HFR.out.trans (grown_below hg12 HFR.out.size (fun i hi => (by cases hi; exact HOG.out)))⟩
        case rest =>
          obtain ⟨o2, mv2, h1, h2, h3, h4, h5⟩ := hcut
          clear HO HOA HOC HOB HK HFR HB HL
          have HOB := Lib.hid h1
          have HO := Lib.hid h2
          have HK := Lib.hid h3
          have HOM := Lib.hid h4
          have HFR := Lib.hid h5
          have HB : Hid (Below w.heap.size w wc) := Lib.hid (HBA.out.trans (HFR.out.mono HBA.out.size))
          clear h1 h2 h3 h4 h5
          have HOC := Lib.hid (opC_length HO.out.1.1 mv2)
          obtain ⟨p3, c3, x3, y3, h1, h2⟩ := H3A.out.keep HFR.out
          have H3 := Lib.hid h1
          have HU := Lib.hid h2.read
          clear h1 h2
          have h3 := H3.out
          have hob := HOB.out
          have hoc := HOC.out
          go_wp2_with (first
            | (refine Agg.gLoadB 4 h3 rfl rfl rfl rfl (by decide +kernel) ?_; simp only [Act.put, List.setIfInBounds_toArray, List.set_cons_succ, List.set_cons_zero])
            | (refine Agg.gLoadB 9 hob hoc rfl rfl rfl (by decide +kernel) ?_; simp only [Act.put, List.setIfInBounds_toArray, List.set_cons_succ, List.set_cons_zero]))
          clear h3 hob hoc
          have HKP := Lib.hid (keeps o2 d HO.out.1.1 HGD.out (fun e => HOM.out (HK.out ▸ e)))
          have HGN := Lib.hid (doesP_good HO.out.1.1 HGD.out.2.2)
          have HLN := Lib.hid (Nat.le_trans (doesP_len o2 d) (Nat.succ_le_succ HCL.out))
          refine (does_R HO.out.1.1 HGD.out.2.2 HC6.out (SlR.keep HO.out.2.1 HFR.out) HU.out).mono ?_
          rintro e w61 ⟨un, rfl, hn, hb⟩
          replace HB := Lib.hid (HB.out.trans (hb.mono HB.out.size))
          replace HFR := Lib.hid (HFR.out.keep hb)
          replace HOB := Lib.hid (HOB.out.keep hb)
          replace H3 := Lib.hid (H3.out.keep hb)
          replace HU := Lib.hid (HU.out.keep hb)
          clear hb
          have hbase := hn.base (Nat.zero_le _)
          have HN : Hid (DevO 0 w61 un (doesP o2 d).2) := Lib.hid hbase
          clear hbase
          obtain ⟨gg, hgg⟩ : ∃ g, doesP o2 d = g := ⟨_, rfl⟩
          rw [hgg] at HKP HGN HLN HN
          rw [hgg]
          obtain ⟨ec, d2⟩ := gg
          simp only at HKP HGN HLN HN ⊢
          clear hn hgg HOM
          obtain ⟨pn, pnc, cn, cnc, rfl⟩ := DevR.shape HN.out.read
          go_upto_region 15 with (fail)
          have h3l := H3.out.lt
          refine Agg.wp_at fun w62 hw62 => ?_
          have hb : Below w61.heap.size w61 w62 := by rw [hw62.out]; repeat (first | exact Below.refl _ _ | refine Agg.bel_drew ?_ | refine Agg.bel_alloc ?_ _)
          replace HB := Lib.hid (HB.out.trans (hb.mono HB.out.size))
          replace HFR := Lib.hid (HFR.out.keep hb)
          replace HOB := Lib.hid (HOB.out.keep hb)
          replace H3 := Lib.hid (H3.out.keep hb)
          replace HU := Lib.hid (HU.out.keep hb)
          replace HN := Lib.hid (HN.out.keep hb)
          clear hb
          have H10 : Hid (Blk w62 w61.heap.size 36 [.slice pn d2.pages.length pnc, .slice cn d2.cache.length cnc, .int .i64 d2.fuse, .bool d2.off]) := by show Blk _ _ _ _; rw [hw62.out]; exact Blk.new w61 36 #[.slice pn d2.pages.length pnc, .slice cn d2.cache.length cnc, .int .i64 d2.fuse, .bool d2.off]
          clear hw62
          generalize w61.heap.size = g10 at *
          go_cut [50] from 45 to 50 (fun v wx => v = .bool (ec != 0 && ec != 10) ∧ wx = w62)
          case first =>
            by_cases e0 : ec = 0
            · have e0b : (ec != 0) = false := by simp [e0]
              go_wp2_with fail
              go_meet
              exact ⟨by simp [e0], rfl⟩
            · have e0b : (ec != 0) = true := by simp [e0]
              go_wp2_with fail
              go_meet
              exact ⟨by simp [e0], rfl⟩
          case rest =>
            obtain ⟨rfl, hwx⟩ := hcut
            replace hwx := hwx.symm
            subst hwx
            by_cases hgo : ec = 0 ∨ ec = 10
            · have hgb : (ec != 0 && ec != 10) = false := by rcases hgo with e | e <;> simp [e]
              rw [hgb]
              have HGO := Lib.hid hgo
              clear hgb hgo
              have h3 := H3.out
              have h10 := H10.out
              go_upto_block 2 with (first
                | (refine Agg.gLoadB 4 h10 rfl rfl rfl rfl (by decide +kernel) ?_; simp only [Act.put, List.setIfInBounds_toArray, List.set_cons_succ, List.set_cons_zero])
                | (refine Agg.gStoreB 4 [.slice pn d2.pages.length pnc, .slice cn d2.cache.length cnc, .int .i64 d2.fuse, .bool d2.off] h3 rfl rfl rfl rfl rfl (by decide +kernel) rfl rfl (by simp [Value.oneCell']) (fun w14 hb14 hg14 => ?_)))
              have hd14 : DevA w14 g3 d2 := ⟨pn, pnc, cn, cnc, hb14, HN.out.other h3 devB devW hg14⟩
              have h5 := (H5A.out.keep HFR.out).far' hg14 (Ne.symm HNE.out.1)
              have h6 := (H6A.out.keep HFR.out).far' hg14 (Ne.symm HNE.out.2)
              have hob := HOB.out.far' hg14 (blk_ne HOB.out h3 opDne)
              have hbb := HB.out.trans (grown_below hg14 HB.out.size (fun j hj => (by cases hj; exact H3G.out)))
              clear H3 h10 HU HN H10 HOB HB HFR H3A hb14 hg14 h3
              have H3 := Lib.hid hd14
              have H5 := Lib.hid h5
              have H6 := Lib.hid h6
              have HOB := Lib.hid hob
              have HB := Lib.hid hbb
              clear hd14 h5 h6 hob hbb
              have HLC := HCL
              go_cut [] from 52 to 72 (fun wx => KeepI d2 ∧ d2.off = false ∧ Below w.heap.size w wx ∧ DevA wx g3 d2 ∧ Blk wx g5 56 ((saidL d2).flatMap blkC) ∧ Blk wx (g5 + 1) 56 (d2.pages.flatMap blkC))
              case first =>
                have hK := HK.out
                rcases HKP.out with ⟨h0, h10⟩ | ⟨h, hk, hr, hs, hp⟩ | ⟨h, hk, hr, hs, hp, ho⟩ | ⟨h, hk, q, hq, hq4, hr, hs, hp, ho⟩ | ⟨h, hk, hr, hs, hp, ho⟩ | ⟨h, hk, hr, hs, hp, ho⟩
                · exact absurd HGO.out (by simp only at h0 h10; omega)
                all_goals
                  simp only at h hr hs hp
                  rw [hK] at hk
                  clear hK HKP HGO
                  subst h
                  have HR := Lib.hid hr
                  have HS := Lib.hid hs
                  have HP := Lib.hid hp
                  clear hr hs hp
                · have hk4b : ((K : Int) == 4) = false := by simp; omega
                  clear hk
                  go_wp2_with fail
                  exact ⟨⟨k + 1, d2, by omega, by omega, rfl, HR.out, HLN.out, HB.out, HL0.out.keep HB.out, H3.out, by rw [HS.out]; exact H5.out, by rw [HP.out]; exact H6.out⟩, by simp [intOf]; omega⟩
                · have hk4b : ((K : Int) == 4) = true := by simp [hk]
                  have HO2 := Lib.hid ho
                  clear ho hk
                  have h5 := H5.out
                  have h6 := H6.out
                  have hl6 := keep_len HGD.out.2.1 HGD.out.2.2.pages
                  have hl5 := keep_len (saidL_length d) (saidL_bok HGD.out.2.2)
                  have hsz := HB.out.size
                  go_wp2_with (first
                    | (refine Agg.gLoadB 3168 h6 hl6 rfl rfl rfl (by decide +kernel) ?_; simp only [Act.put, List.setIfInBounds_toArray, List.set_cons_succ, List.set_cons_zero])
                    | (refine Agg.gStoreB 3168 (d.pages.flatMap blkC) h5 rfl rfl rfl rfl rfl (by decide +kernel) hl5 hl6 (pgs_one _) (fun w15 hb15 hg15 => ?_)))
                  go_meet
                  exact ⟨HR.out, HO2.out, HB.out.trans (grown_below hg15 hsz (fun j hj => (by cases hj; exact H5G.out))), H3.out.other h5 HNE.out.1 arrB arrW hg15, by rw [HS.out]; exact hb15, by rw [HP.out]; exact h6.far' hg15 (by omega)⟩
                · have hk4b : ((K : Int) == 4) = false := by simp; omega
                  have hk2 : (K : Int) < 2 := by omega
                  have HO2 := Lib.hid ho
                  have HQ := Lib.hid hq
                  have HFL : Hid (∀ i v, (flC o2.fl)[i]? = some v → w14.cell? ⟨go, 0 + 1 + i, none⟩ = some v) := Lib.hid (fun i v hi => by
                    have hi6 : i < 6 := by have := (List.getElem?_eq_some_iff.1 hi).1; rwa [flC_length HO.out.1.1] at this
                    rw [HOB.out.cell, Nat.zero_add, opC_fl HO.out.1.1 mv2 i hi6]; exact hi)
                  have HPG : Hid (w14.cell? ⟨go, 0 + 1 + 0, none⟩ = some (.int .i64 o2.fl.page)) := Lib.hid (by rw [HOB.out.cell]; exact opC_page mv2)
                  clear ho hk
                  go_upto_region 21 with (fail)
                  refine Agg.chainR 7 (by kernel_rfl) (by kernel_rfl) ?_
                  simp only [List.take_succ_cons, List.take_zero, List.drop_succ_cons, List.drop_zero]
                  refine Agg.chFA fo_fo_Op_1 rfl rfl rfl rfl ?_
                  refine Agg.chFA fo_fo_Fl_0 rfl rfl rfl rfl ?_
                  refine Agg.chLoad rfl rfl rfl rfl (by decide +kernel) HPG.out ?_
                  refine Agg.chFA fo_fo_Op_1 rfl rfl rfl rfl ?_
                  refine Agg.chRowAt 6 (flC o2.fl) (flC_length HO.out.1.1) (by decide +kernel) rfl rfl rfl rfl HFL.out ?_
                  refine Agg.chCall Try.func18 rfl (by kernel_rfl) rfl rfl rfl rfl (fun W hb => block_any o2.fl HO.out.1.1 W) ?_
                  refine Agg.chIAA aiK (by omega) (by omega) rfl rfl rfl rfl rfl ?_
                  refine Agg.chEnd ?_
                  intro vs w91 hb hf
                  simp only [List.reverse, List.reverseAux, Agg.Facts] at hf
                  obtain _ := hf
                  simp only [List.reverse, List.reverseAux, Agg.fill, List.set_cons_succ, List.set_cons_zero]
                  have h5 := H5.out.keep hb
                  have h6 := H6.out.keep hb
                  have h3 := H3.out.keep hb
                  have hbb := HB.out.trans (hb.mono HB.out.size)
                  have hl5 := keep_len (saidL_length d) (saidL_bok HGD.out.2.2)
                  have hbo := fillB_bok HO.out.1.1
                  have hbc := bok_cells hbo
                  have hsz := hbb.size
                  clear hq
                  go_wp2_with (refine Agg.gStoreMid 132 (0 + o2.fl.page.toNat * 132) (blkC (fillB o2.fl)) h5 rfl rfl rfl rfl rfl (by decide +kernel) hbc (by rw [hl5, HQ.out, Int.toNat_natCast]; omega) (blkC_one _) (fun w15 hb15 hg15 => ?_))
                  rw [HQ.out, Int.toNat_natCast, Nat.zero_add, keep_put _ (saidL_bok HGD.out.2.2) q (by rw [saidL_length]; exact hq4) _ hbo] at hb15
                  go_wp2_with fail
                  refine Met.intro ?_
                  go_step
                  go_meet
                  exact ⟨HR.out, HO2.out, hbb.trans (grown_below hg15 hsz (fun j hj => (by cases hj; exact H5G.out))), h3.other h5 HNE.out.1 arrB arrW hg15, by rw [HS.out]; exact hb15, by rw [HP.out]; exact h6.far' hg15 (by omega)⟩
                · have hk4b : ((K : Int) == 4) = false := by simp; omega
                  have hk2 : ¬ (K : Int) < 2 := by omega
                  have hk3 : ((K : Int) == 2) = true := by simp [hk]
                  have HO2 := Lib.hid ho
                  clear ho hk
                  have h5 := H5.out
                  have h6 := H6.out
                  have hl6 := keep_len HGD.out.2.1 HGD.out.2.2.pages
                  have hl5 := keep_len (saidL_length d) (saidL_bok HGD.out.2.2)
                  have hsz := HB.out.size
                  go_wp2_with (first
                    | (refine Agg.gLoadB 3168 h5 hl5 rfl rfl rfl (by decide +kernel) ?_; simp only [Act.put, List.setIfInBounds_toArray, List.set_cons_succ, List.set_cons_zero])
                    | (refine Agg.gStoreB 3168 ((saidL d).flatMap blkC) h6 rfl rfl rfl rfl rfl (by decide +kernel) hl6 hl5 (pgs_one _) (fun w15 hb15 hg15 => ?_)))
                  go_meet
                  exact ⟨HR.out, HO2.out, HB.out.trans (grown_below hg15 hsz (fun j hj => (by cases hj; have := H5G.out; omega))), H3.out.other h6 HNE.out.2 arrB arrW hg15, by rw [HS.out]; exact h5.far' hg15 (by omega), by rw [HP.out]; exact hb15⟩
                · have hk4b : ((K : Int) == 4) = false := by simp; omega
                  have hk2 : ¬ (K : Int) < 2 := by omega
                  have hk3 : ((K : Int) == 2) = false := by simp; omega
                  have HO2 := Lib.hid ho
                  clear ho hk
                  go_wp2_with fail
                  go_meet
                  exact ⟨HR.out, HO2.out, HB.out, H3.out, by rw [HS.out]; exact H5.out, by rw [HP.out]; exact H6.out⟩
              case rest =>
                obtain ⟨hr, ho, hb, h3, h5, h6⟩ := hcut
                clear HKP HK HGO HGD HCL HC6 H3 H5 H6 HOB HB HOC HO HBA HLA H5A H6A HGN
                have HR := Lib.hid hr
                have HOF := Lib.hid ho
                have HB := Lib.hid hb
                have HDC : Hid (d2.cache.length ≤ 1000000) := Lib.hid (by have := HLN.out; omega)
                obtain ⟨p3, c3, x3, y3, h31, h32⟩ := h3
                obtain ⟨Wc, hWc⟩ : ∃ x, x = wc := ⟨_, rfl⟩
                have HFR : Hid (From Wc wc) := Lib.hid (by rw [hWc]; exact Below.refl _ _)
                rw [← hWc] at h31 h32 h5 h6 hb
                have H3A := Lib.hid h31
                have HUA := Lib.hid h32
                have H5A := Lib.hid h5
                have H6A := Lib.hid h6
                have HBA := Lib.hid hb
                clear hWc h31 h32 h5 h6 hb hr ho
                go_wp2_with fail
                go_loopw [73] (fun i wr => ∃ p : Nat, p ≤ 24 ∧ i = .int .i64 p ∧ From Wc wr) (fun i _ => 24 - (intOf i).toNat)
                case atStart => exact ⟨0, by omega, rfl, HFR.out⟩
                case round =>
                  obtain ⟨p, hp, rfl, hfr⟩ := hrel
                  clear HFR HB
                  have HFR := Lib.hid hfr
                  have HB : Hid (Below w.heap.size w wr) := Lib.hid (HBA.out.trans (hfr.mono HBA.out.size))
                  clear hfr
                  obtain ⟨wB, hwB⟩ : ∃ x, x = wr := ⟨_, rfl⟩
                  subst hwB
                  by_cases hp24 : p < 24
                  · have H3 := Lib.hid (H3A.out.keep HFR.out)
                    have H5 := Lib.hid (H5A.out.keep HFR.out)
                    have HU := Lib.hid (HUA.out.read.keep HFR.out)
                    have HRP := Lib.hid (keep_read HR.out HOF.out p hp24)
                    have HBK : Hid (BOk ((saidL d2)[p]'(by rw [saidL_length]; exact hp24))) := Lib.hid (saidL_bok HR.out.2.2 _ (List.getElem_mem _))
                    have HCU : Hid (∀ W, From Wc W → ∀ i v, (blkC ((saidL d2)[p]'(by rw [saidL_length]; exact hp24)))[i]? = some v → W.cell? ⟨g5, 0 + (p : Int).toNat * 132 + i, none⟩ = some v) := Lib.hid (fun W hf => keep_at (H5A.out.keep hf) (saidL_bok HR.out.2.2) p (by rw [saidL_length]; exact hp24))
                    obtain ⟨bb, hbb⟩ : ∃ b, (saidL d2)[p]'(by rw [saidL_length]; exact hp24) = b := ⟨_, rfl⟩
                    rw [hbb] at HRP HBK HCU
                    clear hbb
                    have h3 := H3.out
                    go_wp2_with (refine Agg.gLoadB 4 h3 rfl rfl rfl rfl (by decide +kernel) ?_; simp only [Act.put, List.setIfInBounds_toArray, List.set_cons_succ, List.set_cons_zero])
                    clear h3
                    refine (read_R HR.out.2.2 HDC.out HU.out (p : Int)).mono ?_
                    rintro e w121 ⟨rfl, hb⟩
                    replace HB := Lib.hid (HB.out.trans (hb.mono HB.out.size))
                    replace HFR := Lib.hid (HFR.out.keep hb)
                    replace H3 := Lib.hid (H3.out.keep hb)
                    replace HU := Lib.hid (HU.out.keep hb)
                    clear hb
                    rw [HRP.out]
                    have hls := bok_cells HBK.out
                    go_upto_region 28 with (first
                      | (refine Agg.allocRow 46 (blkC zeroB).toArray rfl rfl (by kernel_rfl) ?_; simp only [Act.put, List.setIfInBounds_toArray, List.set_cons_succ, List.set_cons_zero])
                      | (refine Agg.gStoreNew 132 (blkC bb) rfl rfl rfl rfl rfl rfl (by decide +kernel) hls zero132 (blkC_one _) ?_; simp only [Act.put]))
                    refine Agg.wp_at fun w122 hw122 => ?_
                    have hb : Below w121.heap.size w121 w122 := by rw [hw122.out]; repeat (first | exact Below.refl _ _ | refine Agg.bel_drew ?_ | refine Agg.bel_alloc ?_ _)
                    replace HB := Lib.hid (HB.out.trans (hb.mono HB.out.size))
                    replace HFR := Lib.hid (HFR.out.keep hb)
                    replace H3 := Lib.hid (H3.out.keep hb)
                    replace HU := Lib.hid (HU.out.keep hb)
                    clear hb
                    have H13 : Hid (Blk w122 w121.heap.size 46 (blkC bb)) := by show Blk _ _ _ _; rw [hw122.out]; exact Blk.new w121 46 (blkC bb).toArray
                    clear hw122 hls
                    generalize w121.heap.size = g13 at *
                    have HCV := Lib.hid (HCU.out w122 HFR.out)
                    refine Agg.chainR 9 (by kernel_rfl) (by kernel_rfl) ?_
                    simp only [List.take_succ_cons, List.take_zero, List.drop_succ_cons, List.drop_zero]
                    refine Agg.chMove rfl rfl rfl rfl ?_
                    refine Agg.chNe false (by simp) rfl rfl rfl rfl rfl ?_
                    refine Agg.chMove rfl rfl rfl rfl ?_
                    refine Agg.chRowB 132 H13.out (bok_cells HBK.out) (by decide +kernel) rfl rfl rfl rfl ?_
                    refine Agg.chMove rfl rfl rfl rfl ?_
                    refine Agg.chIAA aiK (by omega) (by omega) rfl rfl rfl rfl rfl ?_
                    refine Agg.chRowAt 132 (blkC bb) (bok_cells HBK.out) (by decide +kernel) rfl rfl rfl rfl HCV.out ?_
                    refine Agg.chBin (v := .bool false) rfl rfl rfl rfl rfl (fun w => flatBlk.gd .neq _ _ _ _ w) (fun w => blk_neq bb bb HBK.out HBK.out true (by simp) w) ?_
                    refine Agg.chPick rfl rfl rfl rfl rfl ?_
                    refine Agg.chEnd ?_
                    intro vs w123 hb _
                    refine Agg.wpNil ?_
                    simp only [List.reverse, List.reverseAux, Agg.fill, List.set_cons_succ, List.set_cons_zero]
                    replace HB := Lib.hid (HB.out.trans (hb.mono HB.out.size))
                    replace HFR := Lib.hid (HFR.out.keep hb)
                    replace H13 := Lib.hid (H13.out.keep hb)
                    clear hb
                    go_wp2_with fail
                    exact ⟨⟨p + 1, by omega, rfl, HFR.out⟩, by simp [intOf]; omega⟩
                  · obtain rfl : p = 24 := by omega
                    go_wp2_with fail
                    exact ⟨⟨k + 1, d2, by omega, by omega, rfl, HR.out, HLN.out, HB.out, HL0.out.keep HB.out, DevA.keep ⟨p3, c3, x3, y3, H3A.out, HUA.out⟩ HFR.out, H5A.out.keep HFR.out, H6A.out.keep HFR.out⟩, by simp [intOf]; omega⟩
            · have hgb : (ec != 0 && ec != 10) = true := by simp; omega
              rw [hgb]
              clear hgo
              go_wp2_with fail
              exact ⟨⟨k + 1, d, by omega, by omega, rfl, HGD.out, by have := HCL.out; omega, HB.out, HL0.out.keep HB.out, H3A.out.keep HFR.out, H5A.out.keep HFR.out, H6A.out.keep HFR.out⟩, by simp [intOf]; omega⟩
    · obtain rfl : k = l.length := by omega
      go_wp2_with fail
      go_ret
      exact ⟨rfl, HB.out⟩
theorem DeviceKeeps_walk (v : Value) (f : Nat) (w : World) (h1 : Agg.Good Try.prog w f 50 [v]) :
    Calls Try.prog 5 #[v] w fun e w' => e = .returned (.bool true) ∧ Below w.heap.size w w' := by
  obtain ⟨l, hl⟩ := good_ops h1
  obtain ⟨x, cap, rfl, _⟩ := hl.1.shape
  exact keeps_walk x l.length cap l w hl
end Go.Proofs.Ytapdigcpaebjiaa
