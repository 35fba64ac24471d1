/-
  THE WALK OF LAYER 16's STATEMENT DeviceFuse.
-/
import Derived.Test.YtapdigcpaebjiaaDwB
import Derived.Test.YtapdigcpaebjiaaDwP
namespace Go.Proofs.Ytapdigcpaebjiaa
open Go.ChangeShapes Go.WideShapes Go.ChangeAt Go.RowKit Agg Pg Dv

/-- a device in a variable whose fuse and power are set -/
theorem DevAt.turn {w w1 w2 : World} {g : Nat} {d : Dev} {px cx : Option Addr} {pc cc : Nat} {z : Int} {q : Bool} (hok : DOk d)
    (h1 : Blk w g 36 [.slice px d.pages.length pc, .slice cx d.cache.length cc, .int .i64 d.fuse, .bool d.off])
    (h2 : DevR w (.agg #[.slice px d.pages.length pc, .slice cx d.cache.length cc, .int .i64 d.fuse, .bool d.off]) d)
    (hg1 : w.grownBy w1 (some g)) (hb1 : Blk w1 g 36 [.slice px d.pages.length pc, .slice cx d.cache.length cc, .int .i64 d.fuse, .bool q])
    (hg2 : w1.grownBy w2 (some g)) (hb2 : Blk w2 g 36 [.slice px d.pages.length pc, .slice cx d.cache.length cc, .int .i64 z, .bool q]) : DevAt w2 g { d with fuse := z, off := q } := by
  obtain ⟨x, y, cap, cm, e, p, c⟩ := (h2.far hok h1 hg1).far hok hb1 hg2
  simp only [Value.agg.injEq, Array.mk.injEq, List.cons.injEq, and_true, Value.slice.injEq, true_and] at e
  obtain ⟨⟨rfl, rfl⟩, rfl, rfl⟩ := e
  exact ⟨px, pc, cx, cc, hb2, px, cx, pc, cc, rfl, p, c⟩
set_option maxHeartbeats 4000000 in
set_option maxRecDepth 100000 in
theorem fuse_walk (x : LaidD) (fv cv : Value) (n : Int) (sx : Option Addr) (m cap : Nat) (l : List (OpD × Value)) (w : World) (hx : LaidOk w x fv cv) (hl : Opss w (.slice sx m cap) l) :
    Calls Try.prog 8 #[.agg (laidC x fv cv).toArray, .int .i64 n, .slice sx m cap] w fun e w' => e = .returned (.bool true) ∧ Below w.heap.size w w' := by
  obtain ⟨_, _, hlx, _⟩ := hl.1.shape
  cases hlx
  have HL := Lib.hid hl
  have HL0 := HL
  have HX := Lib.hid hx
  have HGD := Lib.hid (laid_good hx)
  have HFEW := Lib.hid (laid_few x)
  obtain ⟨d, hd⟩ : ∃ d, laidD x = d := ⟨_, rfl⟩
  have HDV : Hid (∀ W, LaidOk W x fv cv → Calls Try.prog 10 #[.agg (laidC x fv cv).toArray] W fun e w' => ∃ v, e = .returned v ∧ DevRV d v w' ∧ Below W.heap.size W w') := Lib.hid (fun W h => by have := device_RR h; rwa [hd] at this)
  rw [hd] at HGD HFEW
  have HLC : Hid ((laidC x fv cv).length = 5) := Lib.hid rfl
  clear hx hl hd
  have HB := Lib.hid (Below.refl w.heap.size w)
  go_enter Try.func8, Try.ntmps8
  go_upto_region 1 with (fail)
  refine Agg.wp_at fun w1 hw1 => ?_
  have hb : Below w.heap.size w w1 := by rw [hw1.out]; repeat (first | exact Below.refl _ _ | refine Agg.bel_drew ?_ | refine Agg.bel_alloc ?_ _)
  replace HB := Lib.hid (HB.out.trans (hb.mono HB.out.size))
  replace HX := Lib.hid (HX.out.keep hb)
  replace HL := Lib.hid (HL.out.keep hb)
  clear hb
  have H1 : Hid (Blk w1 w.heap.size 24 (laidC x fv cv)) := by show Blk _ _ _ _; rw [hw1.out]; exact Blk.new w 24 (laidC x fv cv).toArray
  clear hw1
  go_wp2_with fail
  refine (wakes_any w1).mono ?_
  rintro e w2 ⟨rfl, hb⟩
  replace HB := Lib.hid (HB.out.trans (hb.mono HB.out.size))
  replace HX := Lib.hid (HX.out.keep hb)
  replace HL := Lib.hid (HL.out.keep hb)
  replace H1 := Lib.hid (H1.out.keep hb)
  clear hb
  have h1 := H1.out
  go_wp2_with (refine Agg.gLoadB 5 h1 HLC.out rfl rfl rfl (by decide +kernel) ?_; simp only [Act.put, List.setIfInBounds_toArray, List.set_cons_succ, List.set_cons_zero])
  clear h1
  refine (HDV.out w2 HX.out).mono ?_
  rintro e w3 ⟨u, rfl, hu, hb⟩
  replace HB := Lib.hid (HB.out.trans (hb.mono HB.out.size))
  replace HX := Lib.hid (HX.out.keep hb)
  replace HL := Lib.hid (HL.out.keep hb)
  replace H1 := Lib.hid (H1.out.keep hb)
  clear hb
  have HU := Lib.hid hu
  obtain ⟨px, pc, cx, cc, rfl⟩ := DevR.shape HU.out
  clear hu HX H1 HDV HLC
  go_upto_region 4 with (fail)
  have HB0 := HB.out.size
  refine Agg.wp_at fun w4 hw4 => ?_
  have hb : Below w3.heap.size w3 w4 := by rw [hw4.out]; repeat (first | exact Below.refl _ _ | refine Agg.bel_drew ?_ | refine Agg.bel_alloc ?_ _)
  replace HB := Lib.hid (HB.out.trans (hb.mono HB.out.size))
  replace HL := Lib.hid (HL.out.keep hb)
  replace HU := Lib.hid (HU.out.keep hb)
  clear hb
  have H7 : Hid (Blk w4 w3.heap.size 36 [.slice px d.pages.length pc, .slice cx d.cache.length cc, .int .i64 d.fuse, .bool d.off]) := by show Blk _ _ _ _; rw [hw4.out]; exact Blk.new w3 36 #[.slice px d.pages.length pc, .slice cx d.cache.length cc, .int .i64 d.fuse, .bool d.off]
  clear hw4
  have H7G : Hid (w.heap.size ≤ w3.heap.size) := Lib.hid HB0
  clear HB0
  generalize w3.heap.size = g7 at *
  have h1 := H7.out
  go_upto_region 5 with (first
    | (refine Agg.gStoreCell 3 (.bool false) h1 rfl rfl rfl rfl rfl (by kernel_rfl) rfl (by simp) rfl (fun w12 hb12 hg12 => ?_); clear h1)
    | (refine Agg.gStoreCell 2 (.int .i64 (-1)) hb12 rfl rfl rfl rfl rfl (by kernel_rfl) rfl (by simp [spliced]) rfl (fun w13 hb13 hg13 => ?_)))
  simp only [spliced, List.take_succ_cons, List.take_zero, List.drop_succ_cons, List.drop_zero, List.length_cons, List.length_nil, List.cons_append, List.nil_append] at hb12 hb13
  have HB1 := HB.out.trans (grown_below hg12 HB.out.size (fun j hj => (by cases hj; exact H7G.out)))
  replace HB := Lib.hid (HB1.trans (grown_below hg13 HB1.size (fun j hj => (by cases hj; exact H7G.out))))
  have H7b := Lib.hid (DevAt.turn HGD.out.ok H7.out HU.out hg12 hb12 hg13 hb13)
  clear H7 HB1 hb12 hg12 hb13 hg13 HU
  replace HL := Lib.hid (HL0.out.keep HB.out)
  have HD1 : Hid (DGood { d with fuse := -1, off := false }) := Lib.hid ⟨HGD.out.pages, HGD.out.cache, HGD.out.nums, HGD.out.np⟩
  have HOF : Hid (({ d with fuse := -1, off := false } : Dev).off = false) := Lib.hid rfl
  replace HFEW : Hid (({ d with fuse := -1, off := false } : Dev).cache.length ≤ 40) := HFEW
  clear HGD
  generalize ({ d with fuse := -1, off := false } : Dev) = d1 at *
  obtain ⟨p1, c1, x1, y1, h1, h2⟩ := H7b.out
  have H7 := Lib.hid h1
  have HU := Lib.hid h2
  clear h1 h2 H7b
  have h1 := H7.out
  go_wp2_with (refine Agg.gLoadB 4 h1 rfl rfl rfl rfl (by decide +kernel) ?_; simp only [Act.put, List.setIfInBounds_toArray, List.set_cons_succ, List.set_cons_zero])
  clear h1
  obtain ⟨rd, hrd⟩ : ∃ b, rightD d1 = b := ⟨_, rfl⟩
  have HRD := Lib.hid hrd
  clear hrd
  refine (check_R HD1.out HU.out).mono ?_
  rintro e w21 ⟨rfl, hb⟩
  replace HB := Lib.hid (HB.out.trans (hb.mono HB.out.size))
  replace HL := Lib.hid (HL.out.keep hb)
  replace H7 := Lib.hid (H7.out.keep hb)
  replace HU := Lib.hid (HU.out.keep hb)
  clear hb
  rw [HRD.out]
  cases rd
  · go_wp2_with fail
    go_ret
    exact ⟨rfl, HB.out⟩
  · simp only [if_true]
    obtain ⟨M, hM⟩ : ∃ M : Nat, max n 0 = (M : Int) := ⟨(max n 0).toNat, by omega⟩
    go_upto_region 8 with (refine Agg.max2 _ _ _ (M : Int) rfl rfl rfl rfl hM ?_; simp only [Act.put, List.setIfInBounds_toArray, List.set_cons_succ, List.set_cons_zero])
    clear hM
    obtain ⟨N, hN, hN50⟩ : ∃ N : Nat, (M : Int) % 50 = N ∧ N < 50 := ⟨M % 50, by omega, by omega⟩
    rw [hN]
    clear hN
    have hll := light_lit HRD.out HOF.out (show N ≤ 10000 by omega)
    have HLL := Lib.hid hll.1
    have HLT : Hid (LitD { d1 with fuse := (N : Int) } N) := Lib.hid hll.2
    have HD2 : Hid (DGood { d1 with fuse := (N : Int) }) := Lib.hid ⟨HD1.out.pages, HD1.out.cache, HD1.out.nums, HD1.out.np⟩
    have HF2 : Hid (({ d1 with fuse := (N : Int) } : Dev).cache.length ≤ 40) := Lib.hid HFEW.out
    have HC1 : Hid (d1.cache.length ≤ 1000000) := Lib.hid (Nat.le_trans HFEW.out (by decide))
    clear hll
    have h1 := H7.out
    go_wp2_with (refine Agg.gLoadB 4 h1 rfl rfl rfl rfl (by decide +kernel) ?_; simp only [Act.put, List.setIfInBounds_toArray, List.set_cons_succ, List.set_cons_zero])
    clear h1
    refine (light_R HD1.out HC1.out HU.out (N : Int)).mono ?_
    rintro e w22 ⟨un, rfl, hn, hb⟩
    replace HB := Lib.hid (HB.out.trans (hb.mono HB.out.size))
    replace HL := Lib.hid (HL.out.keep hb)
    replace H7 := Lib.hid (H7.out.keep hb)
    replace HU := Lib.hid (HU.out.keep hb)
    clear hb
    rw [HLL.out] at hn
    rw [HLL.out]
    obtain ⟨d2, hd2⟩ : ∃ e, ({ d1 with fuse := (N : Int) } : Dev) = e := ⟨_, rfl⟩
    rw [hd2] at hn HLT HD2
    replace HF2 : Hid (d2.cache.length ≤ 40) := Lib.hid (by rw [← hd2]; exact HF2.out)
    rw [hd2]
    clear hd2
    have HU2 := Lib.hid hn.read
    obtain ⟨p2, c2, x2, y2, rfl⟩ := DevR.shape hn.read
    clear hn HU HLL HOF HRD HFEW
    have h1 := H7.out
    go_wp2_with (refine Agg.gStoreB 4 [.slice p2 d2.pages.length c2, .slice x2 d2.cache.length y2, .int .i64 d2.fuse, .bool d2.off] h1 rfl rfl rfl rfl rfl (by decide +kernel) rfl rfl (by simp [Value.oneCell']) (fun w14 hb14 hg14 => ?_))
    clear h1
    replace HB := Lib.hid (HB.out.trans (grown_below hg14 HB.out.size (fun j hj => (by cases hj; exact H7G.out))))
    have h7 := H7.out
    have H7b : Hid (DevAt w14 g7 d2) := Lib.hid ⟨p2, c2, x2, y2, hb14, HU2.out.far HD2.out.ok h7 hg14⟩
    clear h7 hb14 hg14 H7 HU2 HD1 HC1
    replace HL := Lib.hid (HL0.out.keep HB.out)
    go_loopw [40, 1] (fun i nn wr => ∃ (k m : Nat) (d : Dev), k ≤ l.length ∧ k ≤ 60 ∧ i = .int .i64 k ∧ nn = .int .i64 m ∧ LitD d m ∧ DGood d ∧ d.cache.length ≤ 40 + k ∧ Below w.heap.size w wr ∧ Opss wr (.slice sx l.length cap) l ∧ DevAt wr g7 d) (fun i _ _ => l.length - (intOf i).toNat)
    case atStart => exact ⟨0, N, d2, by omega, by omega, rfl, rfl, HLT.out, HD2.out, HF2.out, HB.out, HL.out, H7b.out⟩
    case round =>
      obtain ⟨k, m, d, hk, hk60, rfl, rfl, hlt, hgd, hcl, hb, h1, h2⟩ := hrel
      clear HLT HD2 HF2 H7b
      clear hN50
      replace HB := Lib.hid hb
      replace HL := Lib.hid h1
      have HLT := Lib.hid hlt
      have HGD := Lib.hid hgd
      have HCL := Lib.hid hcl
      have HC6 : Hid (d.cache.length ≤ 1000000) := Lib.hid (by omega)
      have H70 := Lib.hid h2
      clear hb h1 h2 hgd hcl hlt
      obtain ⟨wA, hwA⟩ : ∃ x, x = wr := ⟨_, rfl⟩
      subst hwA
      obtain ⟨W0, hW0⟩ : ∃ x, x = wA := ⟨_, rfl⟩
      have HFR : Hid (From W0 wA) := Lib.hid (by rw [hW0]; exact Below.refl _ _)
      have HBA : Hid (Below w.heap.size w W0) := Lib.hid (by rw [hW0]; exact HB.out)
      have HLA : Hid (Opss W0 (.slice sx l.length cap) l) := Lib.hid (by rw [hW0]; exact HL.out)
      obtain ⟨p2, c2, x2, y2, h1, h2⟩ := H70.out
      have H7A : Hid (Blk W0 g7 36 [.slice p2 d.pages.length c2, .slice x2 d.cache.length y2, .int .i64 d.fuse, .bool d.off]) := Lib.hid (by rw [hW0]; exact h1)
      have HUA : Hid (DevR W0 (.agg #[.slice p2 d.pages.length c2, .slice x2 d.cache.length y2, .int .i64 d.fuse, .bool d.off]) d) := Lib.hid (by rw [hW0]; exact h2)
      clear hW0
      obtain ⟨hr1, ho1, hf1⟩ := HLT.out
      have HOFF := Lib.hid ho1
      have HFU := Lib.hid hf1
      clear h1 h2 hr1 ho1 hf1
      by_cases hlt : k < l.length
      · obtain ⟨lb, lo, cap', hve, _, _, hcs, _⟩ := SlR.pos HL.out.1 (by decide) (by omega)
        simp only [Value.slice.injEq, true_and] at hve
        obtain ⟨rfl, rfl⟩ := hve
        have HO := Lib.hid (HL.out.2 _ (List.getElem_mem hlt))
        have HOA := Lib.hid (HLA.out.2 _ (List.getElem_mem hlt))
        have HOC := Lib.hid (opC_length HO.out.1.1 l[k].2)
        have hrow := opss_at HL.out hlt
        generalize l[k] = om at *
        obtain ⟨o, mv⟩ := om
        dsimp only at *
        have hone := opC_one' HO.out.2.1
        have hoc := HOC.out
        go_upto_region 14 with (first
          | (refine Agg.gLoad 9 (opC o mv) rfl rfl rfl (by decide +kernel) hoc hrow ?_; simp only [Act.put, List.setIfInBounds_toArray, List.set_cons_succ, List.set_cons_zero])
          | (refine Agg.allocRow 31 op0.toArray rfl rfl (by kernel_rfl) ?_; simp only [Act.put, List.setIfInBounds_toArray, List.set_cons_succ, List.set_cons_zero])
          | (refine Agg.gStoreNew 9 (opC o mv) rfl rfl rfl rfl rfl rfl (by decide +kernel) hoc op0_size hone ?_; simp only [Act.put]))
        have hfs := HFR.out.size
        refine Agg.wp_at fun w31 hw31 => ?_
        have hb : Below wA.heap.size wA w31 := by rw [hw31.out]; repeat (first | exact Below.refl _ _ | refine Agg.bel_drew ?_ | refine Agg.bel_alloc ?_ _)
        replace HB := Lib.hid (HB.out.trans (hb.mono HB.out.size))
        replace HL := Lib.hid (HL.out.keep hb)
        replace HFR := Lib.hid (HFR.out.keep hb)
        replace HO := Lib.hid (HO.out.keep hb)
        clear hb
        have HOB : Hid (Blk w31 wA.heap.size 31 (opC o mv)) := by show Blk _ _ _ _; rw [hw31.out]; exact Blk.new wA 31 (opC o mv).toArray
        have HGO : Hid (W0.heap.size ≤ wA.heap.size) := Lib.hid hfs
        clear hw31 hrow hone hoc hfs
        generalize wA.heap.size = go at *
        by_cases h60 : k = 60
        · subst h60
          have H7 : Hid (Blk w31 g7 36 [.slice p2 d.pages.length c2, .slice x2 d.cache.length y2, .int .i64 (m : Int), .bool false]) := Lib.hid (by have h := H7A.out.keep HFR.out; rw [HFU.out, HOFF.out] at h; exact h)
          go_upto_region 33 with (fail)
          refine Agg.listR 10 (by kernel_rfl) ?_
          simp only [List.take_succ_cons, List.take_zero, List.drop_succ_cons, List.drop_zero]
          refine Agg.chFA (by first | exact fo_fo_Dev_2 | exact fo_fo_Op_2 | exact fo_fo_Fl_2) rfl rfl rfl rfl ?_
          refine Agg.chLoadB H7.out (by decide +kernel) rfl rfl (by rfl) rfl rfl ?_
          refine Agg.chMove rfl rfl rfl rfl ?_
          refine Agg.chEq true (by simp) rfl rfl rfl rfl rfl ?_
          refine Agg.chMove rfl rfl rfl rfl ?_
          refine Agg.chFA (by first | exact fo_fo_Dev_3 | exact fo_fo_Op_3) rfl rfl rfl rfl ?_
          refine Agg.chLoadB H7.out (by decide +kernel) rfl rfl (by rfl) rfl rfl ?_
          refine Agg.chNot rfl rfl rfl rfl ?_
          refine Agg.chPick rfl rfl rfl rfl rfl ?_
          refine Agg.chAssign rfl rfl rfl rfl ?_
          refine Agg.chEnd ?_
          intro vs w32 hb _
          show Exit.then _ _ Exit.normal _ _
          simp only [List.reverse, List.reverseAux, Agg.fill, List.set_cons_succ, List.set_cons_zero]
          replace HB := Lib.hid (HB.out.trans (hb.mono HB.out.size))
          replace HFR := Lib.hid (HFR.out.keep hb)
          replace HO := Lib.hid (HO.out.keep hb)
          replace HOB := Lib.hid (HOB.out.keep hb)
          clear hb
          go_wp2_with fail
          go_ret
          exact ⟨rfl, HB.out⟩
        · have h60b : ((k : Int) == 60) = false := by simp; omega
          have h60l : k < 60 := by omega
          have hk0 : w31.cell? ⟨go, 0, none⟩ = some (.int .i64 o.kind) := by have h := HOB.out.cell 0; rw [h]; exact opC_kind mv
          have hob := HOB.out
          go_upto_region 16 with (refine Agg.gStoreCell 0 (.int .i64 (wrap64 ((IntKind.u64.wrap o.kind).tmod 3))) hob rfl rfl rfl rfl rfl (by kernel_rfl) rfl (by rw [HOC.out]; decide) rfl (fun w12 hb12 hg12 => ?_))
          have hsp : spliced (opC o mv) 0 [.int .i64 (wrap64 ((IntKind.u64.wrap o.kind).tmod 3))] = opC { o with kind := wrap64 ((IntKind.u64.wrap o.kind).tmod 3) } mv := rfl
          rw [hsp] at hb12
          clear hsp hob hk0
          obtain ⟨j, hj, hj3⟩ := kind3 o.kind
          rw [hj] at hb12 ⊢
          clear hj
          have HKN : Hid (kindN ({ o with kind := (j : Int) } : OpD).kind < 3) := Lib.hid (by show kindN (j : Int) < 3; rw [kindN_small hj3]; exact hj3)
          have HOC2 : Hid ((opC { o with kind := (j : Int) } mv).length = 9) := Lib.hid (opC_length HO.out.1.1 mv)
          have HO1 : Hid (({ o with kind := (j : Int) } : OpD).fl.Ok) := Lib.hid HO.out.1.1
          have HOI : Hid (Ints W0 mv ({ o with kind := (j : Int) } : OpD).ms) := Lib.hid HOA.out.2.1
          obtain ⟨o2, ho2⟩ : ∃ e, ({ o with kind := (j : Int) } : OpD) = e := ⟨_, rfl⟩
          rw [ho2] at HKN HOC2 HO1 HOI hb12
          clear ho2 hj3
          replace HFR : Hid (From W0 w12) := Lib.hid (HFR.out.trans (grown_below hg12 HFR.out.size (fun i hi => (by cases hi; exact HGO.out))))
          have HOB := Lib.hid hb12
          replace HB : Hid (Below w.heap.size w w12) := Lib.hid (HBA.out.trans (HFR.out.mono HBA.out.size))
          clear hb12 hg12 HO HOA HOC
          have H7 := Lib.hid (H7A.out.keep HFR.out)
          have HU := Lib.hid (HUA.out.keep HFR.out)
          have h7 := H7.out
          go_upto_region 17 with (refine Agg.gLoadB 4 h7 rfl rfl rfl rfl (by decide +kernel) ?_; simp only [Act.put, List.setIfInBounds_toArray, List.set_cons_succ, List.set_cons_zero])
          clear h7
          have hlt7 := H7.out.lt
          have hltg := HOB.out.lt
          have hfs := HFR.out.size
          refine Agg.wp_at fun w51 hw51 => ?_
          have hb : Below w12.heap.size w12 w51 := by rw [hw51.out]; repeat (first | exact Below.refl _ _ | refine Agg.bel_drew ?_ | refine Agg.bel_alloc ?_ _)
          replace HB := Lib.hid (HB.out.trans (hb.mono HB.out.size))
          replace HFR := Lib.hid (HFR.out.keep hb)
          replace HOB := Lib.hid (HOB.out.keep hb)
          replace H7 := Lib.hid (H7.out.keep hb)
          replace HU := Lib.hid (HU.out.keep hb)
          clear hb
          have H11 : Hid (Blk w51 w12.heap.size 36 [.slice p2 d.pages.length c2, .slice x2 d.cache.length y2, .int .i64 d.fuse, .bool d.off]) := by show Blk _ _ _ _; rw [hw51.out]; exact Blk.new w12 36 #[.slice p2 d.pages.length c2, .slice x2 d.cache.length y2, .int .i64 d.fuse, .bool d.off]
          have H11G : Hid (W0.heap.size ≤ w12.heap.size) := Lib.hid hfs
          clear hw51 hfs
          generalize w12.heap.size = g11 at *
          obtain ⟨gg, hgg⟩ : ∃ g, doesP o2 d = g := ⟨_, rfl⟩
          have HGG := Lib.hid hgg
          have HST := Lib.hid (fuse_step HKN.out HLT.out HGD.out)
          have HGN := Lib.hid (doesP_good HO1.out HGD.out)
          have HLN := Lib.hid (Nat.le_trans (doesP_len o2 d) (Nat.succ_le_succ HCL.out))
          rw [hgg] at HST HGN HLN
          clear hgg hlt7 hltg
          have h7 := H7.out
          have hob := HOB.out
          go_wp2_with (first | (refine Agg.gLoadB 4 h7 rfl rfl rfl rfl (by decide +kernel) ?_; simp only [Act.put, List.setIfInBounds_toArray, List.set_cons_succ, List.set_cons_zero]) | (refine Agg.gLoadB 9 hob HOC2.out rfl rfl rfl (by decide +kernel) ?_; simp only [Act.put, List.setIfInBounds_toArray, List.set_cons_succ, List.set_cons_zero]))
          clear h7 hob
          refine (does_R HO1.out HGD.out HC6.out (SlR.keep HOI.out HFR.out) HU.out).mono ?_
          rintro e w52 ⟨un, rfl, hn, hb⟩
          replace HB := Lib.hid (HB.out.trans (hb.mono HB.out.size))
          replace HFR := Lib.hid (HFR.out.keep hb)
          replace HOB := Lib.hid (HOB.out.keep hb)
          replace H7 := Lib.hid (H7.out.keep hb)
          replace HU := Lib.hid (HU.out.keep hb)
          replace H11 := Lib.hid (H11.out.keep hb)
          clear hb
          rw [HGG.out] at hn
          rw [HGG.out]
          have HN := Lib.hid hn.read
          obtain ⟨pn, pnc, cn, cnc, rfl⟩ := DevR.shape hn.read
          clear hn HGG HOI HO1 HOC2 HKN
          go_upto_region 24 with (fail)
          have hl11 := H11.out.lt
          refine Agg.wp_at fun w53 hw53 => ?_
          have hb : Below w52.heap.size w52 w53 := by rw [hw53.out]; repeat (first | exact Below.refl _ _ | refine Agg.bel_drew ?_ | refine Agg.bel_alloc ?_ _)
          replace HB := Lib.hid (HB.out.trans (hb.mono HB.out.size))
          replace HFR := Lib.hid (HFR.out.keep hb)
          replace H7 := Lib.hid (H7.out.keep hb)
          replace HU := Lib.hid (HU.out.keep hb)
          replace H11 := Lib.hid (H11.out.keep hb)
          replace HN := Lib.hid (HN.out.keep hb)
          clear hb
          have HNE : Hid (g11 ≠ w52.heap.size) := Lib.hid (Nat.ne_of_lt hl11)
          clear hl11
          have H12 : Hid (Blk w53 w52.heap.size 36 [.slice pn gg.2.pages.length pnc, .slice cn gg.2.cache.length cnc, .int .i64 gg.2.fuse, .bool gg.2.off]) := by show Blk _ _ _ _; rw [hw53.out]; exact Blk.new w52 36 #[.slice pn gg.2.pages.length pnc, .slice cn gg.2.cache.length cnc, .int .i64 gg.2.fuse, .bool gg.2.off]
          clear hw53
          generalize w52.heap.size = g12 at *
          obtain ⟨gc, gd⟩ := gg
          simp only at HST HGN HLN HN H12 ⊢
          rcases HST.out with h4 | ⟨m', rfl, h0, hl2⟩ | ⟨rfl, hC⟩
          · subst h4
            go_wp2_with fail
            exact ⟨⟨k + 1, m, d, by omega, by omega, rfl, rfl, HLT.out, HGD.out, by have := HCL.out; omega, HB.out, HL0.out.keep HB.out, ⟨p2, c2, x2, y2, H7.out, HU.out⟩⟩, by simp [intOf]; omega⟩
          · subst h0
            have hm0 : (0 : Int) < ((m' + 1 : Nat) : Int) := by omega
            have hm9 : (m' : Int) ≤ 10000 := by have h4 := (right_six HLT.out.1).2.2.2.1; have h5 := HLT.out.2.2; omega
            have h7 := H7.out
            have h12 := H12.out
            go_wp2_with (first
              | (refine Agg.gLoadB 4 h12 rfl rfl rfl rfl (by decide +kernel) ?_; simp only [Act.put, List.setIfInBounds_toArray, List.set_cons_succ, List.set_cons_zero])
              | (refine Agg.gStoreB 4 [.slice pn gd.pages.length pnc, .slice cn gd.cache.length cnc, .int .i64 gd.fuse, .bool gd.off] h7 rfl rfl rfl rfl rfl (by decide +kernel) rfl rfl (by simp [Value.oneCell']) (fun w14 hb14 hg14 => ?_)))
            clear h12
            have HB' := HB.out.trans (grown_below hg14 HB.out.size (fun j hj => (by cases hj; exact H7G.out)))
            exact ⟨⟨k + 1, m', gd, by omega, by omega, rfl, rfl, hl2, HGN.out, by have := HLN.out; omega, HB', HL0.out.keep HB', ⟨pn, pnc, cn, cnc, hb14, HN.out.far HGN.out.ok h7 hg14⟩⟩, by simp [intOf]; omega⟩
          · simp only [Prod.mk.injEq] at hC
            obtain ⟨rfl, rfl⟩ := hC
            have H12' : Hid (Blk w53 g12 36 [.slice pn d.pages.length pnc, .slice cn d.cache.length cnc, .int .i64 (-1), .bool true]) := H12
            have HN' : Hid (DevR w53 (.agg #[.slice pn d.pages.length pnc, .slice cn d.cache.length cnc, .int .i64 (-1), .bool true]) (offD d)) := HN
            clear H12 HN H7
            have HR := Lib.hid HLT.out.1
            clear HLT
            go_upto_region 29 with (fail)
            refine Agg.listR 13 (by kernel_rfl) ?_
            simp only [List.take_succ_cons, List.take_zero, List.drop_succ_cons, List.drop_zero]
            refine Agg.chMove rfl rfl rfl rfl ?_
            refine Agg.chNe false (by simp) rfl rfl rfl rfl rfl ?_
            refine Agg.chMove rfl rfl rfl rfl ?_
            refine Agg.chFA (by first | exact fo_fo_Dev_3 | exact fo_fo_Op_3) rfl rfl rfl rfl ?_
            refine Agg.chLoadB H12'.out (by decide +kernel) rfl rfl (by rfl) rfl rfl ?_
            refine Agg.chNot rfl rfl rfl rfl ?_
            refine Agg.chPick rfl rfl rfl rfl rfl ?_
            refine Agg.chMove rfl rfl rfl rfl ?_
            refine Agg.chFA (by first | exact fo_fo_Dev_2 | exact fo_fo_Op_2 | exact fo_fo_Fl_2) rfl rfl rfl rfl ?_
            refine Agg.chLoadB H12'.out (by decide +kernel) rfl rfl (by rfl) rfl rfl ?_
            refine Agg.chNe false (by simp) rfl rfl rfl rfl rfl ?_
            refine Agg.chPick rfl rfl rfl rfl rfl ?_
            refine Agg.chAssign rfl rfl rfl rfl ?_
            refine Agg.chEnd ?_
            intro vs w54 hb _
            show Exit.then _ _ Exit.normal _ _
            simp only [List.reverse, List.reverseAux, Agg.fill, List.set_cons_succ, List.set_cons_zero]
            replace HB := Lib.hid (HB.out.trans (hb.mono HB.out.size))
            replace HFR := Lib.hid (HFR.out.keep hb)
            replace HU := Lib.hid (HU.out.keep hb)
            replace H11 := Lib.hid (H11.out.keep hb)
            replace HN' := Lib.hid (HN'.out.keep hb)
            replace H12' := Lib.hid (H12'.out.keep hb)
            clear hb
            have h12 := H12'.out
            go_wp2_with (refine Agg.gLoadB 4 h12 rfl rfl rfl rfl (by decide +kernel) ?_; simp only [Act.put, List.setIfInBounds_toArray, List.set_cons_succ, List.set_cons_zero])
            clear h12
            have HCN : Hid ((offD d).cache.length ≤ 1000000) := HC6
            refine (read_R HGN.out HCN.out HN'.out 0).mono ?_
            rintro e w55 ⟨rfl, hb⟩
            replace HB := Lib.hid (HB.out.trans (hb.mono HB.out.size))
            replace HFR := Lib.hid (HFR.out.keep hb)
            replace HU := Lib.hid (HU.out.keep hb)
            replace H11 := Lib.hid (H11.out.keep hb)
            replace HN' := Lib.hid (HN'.out.keep hb)
            replace H12' := Lib.hid (H12'.out.keep hb)
            clear hb
            rw [offD_read HR.out]
            go_upto_region 19 with (first
              | (refine Agg.allocRow 46 (blkC zeroB).toArray rfl rfl (by kernel_rfl) ?_; simp only [Act.put, List.setIfInBounds_toArray, List.set_cons_succ, List.set_cons_zero])
              | (refine Agg.gStoreNew 132 (blkC zeroB) rfl rfl rfl rfl rfl rfl (by decide +kernel) zero132 zero132 (blkC_one _) ?_; simp only [Act.put]))
            refine Agg.wp_at fun w56 hw56 => ?_
            have hb : Below w55.heap.size w55 w56 := by rw [hw56.out]; repeat (first | exact Below.refl _ _ | refine Agg.bel_drew ?_ | refine Agg.bel_alloc ?_ _)
            replace HB := Lib.hid (HB.out.trans (hb.mono HB.out.size))
            replace HFR := Lib.hid (HFR.out.keep hb)
            replace HU := Lib.hid (HU.out.keep hb)
            replace H11 := Lib.hid (H11.out.keep hb)
            replace HN' := Lib.hid (HN'.out.keep hb)
            replace H12' := Lib.hid (H12'.out.keep hb)
            clear hb
            clear hw56
            have h12 := H12'.out
            go_wp2_with (refine Agg.gLoadB 4 h12 rfl rfl rfl rfl (by decide +kernel) ?_; simp only [Act.put, List.setIfInBounds_toArray, List.set_cons_succ, List.set_cons_zero])
            clear h12
            refine (flush_R HGN.out HCN.out HN'.out).mono ?_
            rintro e w57 ⟨uf, rfl, hf, hb⟩
            replace HB := Lib.hid (HB.out.trans (hb.mono HB.out.size))
            replace HFR := Lib.hid (HFR.out.keep hb)
            replace HU := Lib.hid (HU.out.keep hb)
            replace H11 := Lib.hid (H11.out.keep hb)
            replace HN' := Lib.hid (HN'.out.keep hb)
            replace H12' := Lib.hid (H12'.out.keep hb)
            clear hb
            rw [offD_flush HR.out] at hf
            rw [offD_flush HR.out]
            have HF := Lib.hid hf.read
            obtain ⟨pf, pfc, cf, cfc, rfl⟩ := DevR.shape hf.read
            clear hf
            go_upto_region 22 with (fail)
            have hl11 := H11.out.lt
            refine Agg.wp_at fun w58 hw58 => ?_
            have hb : Below w57.heap.size w57 w58 := by rw [hw58.out]; repeat (first | exact Below.refl _ _ | refine Agg.bel_drew ?_ | refine Agg.bel_alloc ?_ _)
            replace HB := Lib.hid (HB.out.trans (hb.mono HB.out.size))
            replace HFR := Lib.hid (HFR.out.keep hb)
            replace HU := Lib.hid (HU.out.keep hb)
            replace H11 := Lib.hid (H11.out.keep hb)
            replace HN' := Lib.hid (HN'.out.keep hb)
            replace H12' := Lib.hid (H12'.out.keep hb)
            replace HF := Lib.hid (HF.out.keep hb)
            clear hb
            have HNE2 : Hid (g11 ≠ w57.heap.size) := Lib.hid (Nat.ne_of_lt hl11)
            clear hl11
            have H16 : Hid (Blk w58 w57.heap.size 36 [.slice pf (offD d).pages.length pfc, .slice cf (offD d).cache.length cfc, .int .i64 (offD d).fuse, .bool (offD d).off]) := by show Blk _ _ _ _; rw [hw58.out]; exact Blk.new w57 36 #[.slice pf (offD d).pages.length pfc, .slice cf (offD d).cache.length cfc, .int .i64 (offD d).fuse, .bool (offD d).off]
            clear hw58
            generalize w57.heap.size = g16 at *
            have h1 := H11.out
            go_upto_region 23 with (first
              | (refine Agg.gStoreCell 3 (.bool true) h1 rfl rfl rfl rfl rfl (by kernel_rfl) rfl (by simp) rfl (fun w12 hb12 hg12 => ?_); clear h1)
              | (refine Agg.gStoreCell 2 (.int .i64 (-1)) hb12 rfl rfl rfl rfl rfl (by kernel_rfl) rfl (by simp [spliced]) rfl (fun w13 hb13 hg13 => ?_)))
            simp only [spliced, List.take_succ_cons, List.take_zero, List.drop_succ_cons, List.drop_zero, List.length_cons, List.length_nil, List.cons_append, List.nil_append] at hb12 hb13
            have h11 := DevAt.turn HGD.out.ok H11.out HU.out hg12 hb12 hg13 hb13
            replace HFR : Hid (From W0 w13) := Lib.hid ((HFR.out.trans (grown_below hg12 HFR.out.size (fun i hi => (by cases hi; exact H11G.out)))).trans (grown_below hg13 ((HFR.out.trans (grown_below hg12 HFR.out.size (fun i hi => (by cases hi; exact H11G.out)))).size) (fun i hi => (by cases hi; exact H11G.out))))
            replace HB : Hid (Below w.heap.size w w13) := Lib.hid (HBA.out.trans (HFR.out.mono HBA.out.size))
            replace H12' : Hid (Blk w13 g12 36 [.slice pn (offD d).pages.length pnc, .slice cn (offD d).cache.length cnc, .int .i64 (offD d).fuse, .bool (offD d).off]) := Lib.hid ((H12'.out.far' hg12 (Ne.symm HNE.out)).far' hg13 (Ne.symm HNE.out))
            replace H16 := Lib.hid ((H16.out.far' hg12 (Ne.symm HNE2.out)).far' hg13 (Ne.symm HNE2.out))
            replace HN' : Hid (DevR w13 (.agg #[.slice pn (offD d).pages.length pnc, .slice cn (offD d).cache.length cnc, .int .i64 (offD d).fuse, .bool (offD d).off]) (offD d)) := Lib.hid ((HN'.out.far HGN.out.ok H11.out hg12).far HGN.out.ok hb12 hg13)
            replace HF := Lib.hid ((HF.out.far HGN.out.ok H11.out hg12).far HGN.out.ok hb12 hg13)
            obtain ⟨pw, pwc, cw, cwc, h1, h2⟩ := h11
            have H11' : Hid (Blk w13 g11 36 [.slice pw (offD d).pages.length pwc, .slice cw (offD d).cache.length cwc, .int .i64 (offD d).fuse, .bool (offD d).off]) := Lib.hid h1
            have HW : Hid (DevR w13 (.agg #[.slice pw (offD d).pages.length pwc, .slice cw (offD d).cache.length cwc, .int .i64 (offD d).fuse, .bool (offD d).off]) (offD d)) := Lib.hid h2
            clear h1 h2 hb12 hg12 hb13 hg13 HU H11
            refine Agg.listR 13 (by kernel_rfl) ?_
            simp only [List.take_succ_cons, List.take_zero, List.drop_succ_cons, List.drop_zero]
            refine Agg.chMove rfl rfl rfl rfl ?_
            refine Agg.chEq true (by simp) rfl rfl rfl rfl rfl ?_
            refine Agg.chMove rfl rfl rfl rfl ?_
            refine Agg.chRowB 4 H16.out rfl (by decide +kernel) rfl rfl rfl rfl ?_
            refine Agg.chRowB 4 H12'.out rfl (by decide +kernel) rfl rfl rfl rfl ?_
            refine Agg.chCall Try.func21 rfl (by kernel_rfl) rfl rfl rfl rfl (fun W hb => same_R HGN.out HGN.out (DevR.keep HF.out hb) (DevR.keep HN'.out hb) true (by simp)) ?_
            refine Agg.chPick rfl rfl rfl rfl rfl ?_
            refine Agg.chMove rfl rfl rfl rfl ?_
            refine Agg.chRowB 4 H12'.out rfl (by decide +kernel) rfl rfl rfl rfl ?_
            refine Agg.chRowB 4 H11'.out rfl (by decide +kernel) rfl rfl rfl rfl ?_
            refine Agg.chCall Try.func21 rfl (by kernel_rfl) rfl rfl rfl rfl (fun W hb => same_R HGN.out HGN.out (DevR.keep HN'.out hb) (DevR.keep HW.out hb) true (by simp)) ?_
            refine Agg.chPick rfl rfl rfl rfl rfl ?_
            refine Agg.chAssign rfl rfl rfl rfl ?_
            refine Agg.chEnd ?_
            intro vs w101 hb _
            show Exit.then _ _ Exit.normal _ _
            simp only [List.reverse, List.reverseAux, Agg.fill, List.set_cons_succ, List.set_cons_zero]
            replace HB := Lib.hid (HB.out.trans (hb.mono HB.out.size))
            replace HN' := Lib.hid (HN'.out.keep hb)
            replace H12' := Lib.hid (H12'.out.keep hb)
            replace HF := Lib.hid (HF.out.keep hb)
            replace H16 := Lib.hid (H16.out.keep hb)
            replace H11' := Lib.hid (H11'.out.keep hb)
            replace HW := Lib.hid (HW.out.keep hb)
            clear hb
            go_wp2_with fail
            go_ret
            exact ⟨rfl, HB.out⟩
      · obtain rfl : k = l.length := by omega
        have H7 : Hid (Blk wA g7 36 [.slice p2 d.pages.length c2, .slice x2 d.cache.length y2, .int .i64 (m : Int), .bool false]) := Lib.hid (by have h := H7A.out.keep HFR.out; rw [HFU.out, HOFF.out] at h; exact h)
        go_upto_region 33 with (fail)
        refine Agg.listR 10 (by kernel_rfl) ?_
        simp only [List.take_succ_cons, List.take_zero, List.drop_succ_cons, List.drop_zero]
        refine Agg.chFA (by first | exact fo_fo_Dev_2 | exact fo_fo_Op_2 | exact fo_fo_Fl_2) rfl rfl rfl rfl ?_
        refine Agg.chLoadB H7.out (by decide +kernel) rfl rfl (by rfl) rfl rfl ?_
        refine Agg.chMove rfl rfl rfl rfl ?_
        refine Agg.chEq true (by simp) rfl rfl rfl rfl rfl ?_
        refine Agg.chMove rfl rfl rfl rfl ?_
        refine Agg.chFA (by first | exact fo_fo_Dev_3 | exact fo_fo_Op_3) rfl rfl rfl rfl ?_
        refine Agg.chLoadB H7.out (by decide +kernel) rfl rfl (by rfl) rfl rfl ?_
        refine Agg.chNot rfl rfl rfl rfl ?_
        refine Agg.chPick rfl rfl rfl rfl rfl ?_
        refine Agg.chAssign rfl rfl rfl rfl ?_
        refine Agg.chEnd ?_
        intro vs w102 hb _
        show Exit.then _ _ Exit.normal _ _
        simp only [List.reverse, List.reverseAux, Agg.fill, List.set_cons_succ, List.set_cons_zero]
        replace HB := Lib.hid (HB.out.trans (hb.mono HB.out.size))
        replace HL := Lib.hid (HL.out.keep hb)
        replace HFR := Lib.hid (HFR.out.keep hb)
        clear hb
        go_wp2_with fail
        go_ret
        exact ⟨rfl, HB.out⟩
theorem DeviceFuse_walk (c0 : Array Value) (f0 : Nat) (n : Int) (v : Value) (f : Nat) (w : World) (h0 : Agg.Good Try.prog w f0 24 c0.toList) (_ : (Lit.int .i64 n).wf = true) (h1 : Agg.Good Try.prog w f 50 [v]) :
    Calls Try.prog 8 #[.agg c0, .int .i64 n, v] w fun e w' => e = .returned (.bool true) ∧ Below w.heap.size w w' := by
  obtain ⟨x, fv, cv, rfl, hx⟩ := good_laid h0
  obtain ⟨l, hl⟩ := good_ops h1
  obtain ⟨y, cap, rfl, _⟩ := hl.1.shape
  exact fuse_walk x fv cv n y l.length cap l w hx hl
end Go.Proofs.Ytapdigcpaebjiaa
