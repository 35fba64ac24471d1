/-
  THE WALK OF LAYER 16's STATEMENT DeviceRuns.
-/
import Derived.Test.YtapdigcpaebjiaaDwA
namespace Go.Proofs.Ytapdigcpaebjiaa
open Go.ChangeShapes Go.WideShapes Go.ChangeAt Go.RowKit Agg Pg Dv

def op0 : List Value := [.int .i64 0, .int .i64 0, .int .u64 0, .int .u64 0, .int .u64 0, .int .u64 0, .int .u8 0, .int .i64 0, .slice none 0 0]
theorem op0_size : op0.toArray.size = 9 := rfl
theorem opC_one' {w : World} {o : OpD} {mv : Value} (h : Ints w mv o.ms) : ∀ v ∈ opC o mv, v.oneCell' = true := by
  obtain ⟨x, c, rfl, _⟩ := SlR.shape h
  intro v hv
  rcases List.mem_cons.1 hv with rfl | hv
  · rfl
  · rcases List.mem_append.1 hv with hv | hv
    · exact flC_one _ v hv
    · simp only [List.mem_cons, List.not_mem_nil, or_false] at hv
      rcases hv with rfl | rfl <;> rfl
theorem opDne : 31 ≠ 36 := by decide
/-- a device in a variable -/
def DevAt (w : World) (g : Nat) (d : Dev) : Prop := ∃ px pc cx cc, Blk w g 36 [.slice px d.pages.length pc, .slice cx d.cache.length cc, .int .i64 d.fuse, .bool d.off] ∧ DevR w (.agg #[.slice px d.pages.length pc, .slice cx d.cache.length cc, .int .i64 d.fuse, .bool d.off]) d
theorem DevAt.keep {w w' : World} {g : Nat} {d : Dev} (h : DevAt w g d) (hb : Below w.heap.size w w') : DevAt w' g d := by
  obtain ⟨px, pc, cx, cc, h1, h2⟩ := h
  exact ⟨px, pc, cx, cc, h1.keep hb, h2.keep hb⟩
theorem DevAt.lt {w : World} {g : Nat} {d : Dev} (h : DevAt w g d) : g < w.heap.size := by
  obtain ⟨px, pc, cx, cc, h1, _⟩ := h
  exact h1.lt
theorem DevAt.mk' {w : World} {g : Nat} {d : Dev} {px cx : Option Addr} {pc cc : Nat} (h1 : Blk w g 36 [.slice px d.pages.length pc, .slice cx d.cache.length cc, .int .i64 d.fuse, .bool d.off]) (h2 : DevR w (.agg #[.slice px d.pages.length pc, .slice cx d.cache.length cc, .int .i64 d.fuse, .bool d.off]) d) : DevAt w g d := ⟨px, pc, cx, cc, h1, h2⟩
theorem DevAt.far {w w' : World} {g h : Nat} {d e : Dev} (hd : DevAt w g d) (he : DevAt w h e) (hok : DOk d) (hg : w.grownBy w' (some h)) (hne : g ≠ h) : DevAt w' g d := by
  obtain ⟨px, pc, cx, cc, h1, h2⟩ := hd
  obtain ⟨px2, pc2, cx2, cc2, h3, h4⟩ := he
  exact ⟨px, pc, cx, cc, h1.far' hg hne, h2.far hok h3 hg⟩
/-- .. and another one stored there -/
theorem DevAt.put {w w' : World} {g : Nat} {d e : Dev} {px cx : Option Addr} {pc cc : Nat} (hd : DevAt w g d) (hok : DOk e) (he : DevR w (.agg #[.slice px e.pages.length pc, .slice cx e.cache.length cc, .int .i64 e.fuse, .bool e.off]) e) (h1 : Blk w' g 36 [.slice px e.pages.length pc, .slice cx e.cache.length cc, .int .i64 e.fuse, .bool e.off]) (hg : w.grownBy w' (some g)) : DevAt w' g e := by
  obtain ⟨px2, pc2, cx2, cc2, h3, h4⟩ := hd
  exact ⟨px, pc, cx, cc, h1, he.far hok h3 hg⟩
theorem opss_at {w : World} {b o n cap : Nat} {l : List (OpD × Value)} (h : Opss w (.slice (some ⟨b, o, none⟩) n cap) l) {k : Nat} (hk : k < l.length) : ∀ i v, (opC l[k].1 l[k].2)[i]? = some v → w.cell? ⟨b, o + (k : Int).toNat * 9 + i, none⟩ = some v := by
  obtain ⟨_, _, hlx, _⟩ := h.1.shape
  cases hlx
  exact flat_at (fun x : OpD × Value => opC x.1 x.2) 9 (by decide) h.1 (fun x hx => opC_length (h.2 x hx).1.1 _) hk
theorem readP_bok {d : Dev} (h : DGood d) (k : Int) : BOk (readP d k).2 := by
  rw [readP]
  split
  · exact zero_bok
  · split
    · exact zero_bok
    · split
      · exact zero_bok
      · exact saysP_bok h.pages h.cache k
set_option maxHeartbeats 4000000 in
set_option maxRecDepth 100000 in
theorem runs_walk (n : Int) (x : Option Addr) (m cap : Nat) (l : List (OpD × Value)) (w : World) (hl : Opss w (.slice x m cap) l) :
    Calls Try.prog 4 #[.int .i64 n, .slice x m cap] w fun e w' => e = .returned (.bool true) ∧ Below w.heap.size w w' := by
  obtain ⟨_, _, hlx, _⟩ := hl.1.shape
  cases hlx
  have HL := Lib.hid hl
  have HL0 := HL
  clear hl
  have HB := Lib.hid (Below.refl w.heap.size w)
  go_enter Try.func4, Try.ntmps4
  go_wp2_with fail
  refine (wakes_any w).mono ?_
  rintro e w1 ⟨rfl, hb⟩
  replace HB := Lib.hid (HB.out.trans (hb.mono HB.out.size))
  replace HL := Lib.hid (HL.out.keep hb)
  clear hb
  obtain ⟨N, hN, hN1, hN2⟩ : ∃ N : Nat, min (max n 24) 40 = (N : Int) ∧ 24 ≤ N ∧ N ≤ 40 := ⟨(min (max n 24) 40).toNat, by omega, by omega, by omega⟩
  go_wp2_with (first
    | (refine Agg.max2 _ _ _ (max n 24) rfl rfl rfl rfl rfl ?_; simp only [Act.put, List.setIfInBounds_toArray, List.set_cons_succ, List.set_cons_zero])
    | (refine Agg.min2 _ _ _ (N : Int) rfl rfl rfl rfl hN ?_; simp only [Act.put, List.setIfInBounds_toArray, List.set_cons_succ, List.set_cons_zero]))
  clear hN
  refine (new_R N hN1 (Nat.le_trans hN2 (by decide)) w1).mono ?_
  rintro e w2 ⟨u, rfl, hu, hb⟩
  replace HB := Lib.hid (HB.out.trans (hb.mono HB.out.size))
  replace HL := Lib.hid (HL.out.keep hb)
  clear hb
  have HU := Lib.hid hu.read
  obtain ⟨px, pc, cx, cc, rfl⟩ := DevR.shape hu.read
  clear hu
  go_upto_region 5 with (fail)
  have HB0 := HB.out.size
  refine Agg.wp_at fun w3 hw3 => ?_
  have hb : Below w2.heap.size w2 w3 := by rw [hw3.out]; repeat (first | exact Below.refl _ _ | refine Agg.bel_drew ?_ | refine Agg.bel_alloc ?_ _)
  replace HB := Lib.hid (HB.out.trans (hb.mono HB.out.size))
  replace HL := Lib.hid (HL.out.keep hb)
  replace HU := Lib.hid (HU.out.keep hb)
  clear hb
  have H6 : Hid (DevAt w3 w2.heap.size (newD N)) := Lib.hid (DevAt.mk' (by rw [hw3.out]; exact Blk.new w2 36 #[.slice px (newD N).pages.length pc, .slice cx (newD N).cache.length cc, .int .i64 (newD N).fuse, .bool (newD N).off]) HU.out)
  clear hw3 HU
  have H6G : Hid (w.heap.size ≤ w2.heap.size) := Lib.hid HB0
  clear HB0
  generalize w2.heap.size = g6 at *
  go_wp2_with fail
  refine (rNew_R N (Nat.le_trans hN2 (by decide)) w3).mono ?_
  rintro e w4 ⟨u, rfl, hu, hb⟩
  replace HB := Lib.hid (HB.out.trans (hb.mono HB.out.size))
  replace HL := Lib.hid (HL.out.keep hb)
  replace H6 := Lib.hid (H6.out.keep hb)
  clear hb
  have HU := Lib.hid hu.read
  obtain ⟨px2, pc2, cx2, cc2, rfl⟩ := DevR.shape hu.read
  clear hu
  have h6l := H6.out.lt
  go_upto_region 6 with (fail)
  have HB0 := HB.out.size
  refine Agg.wp_at fun w5 hw5 => ?_
  have hb : Below w4.heap.size w4 w5 := by rw [hw5.out]; repeat (first | exact Below.refl _ _ | refine Agg.bel_drew ?_ | refine Agg.bel_alloc ?_ _)
  replace HB := Lib.hid (HB.out.trans (hb.mono HB.out.size))
  replace HL := Lib.hid (HL.out.keep hb)
  replace H6 := Lib.hid (H6.out.keep hb)
  replace HU := Lib.hid (HU.out.keep hb)
  clear hb
  have H8 : Hid (DevAt w5 w4.heap.size (newD N)) := Lib.hid (DevAt.mk' (by rw [hw5.out]; exact Blk.new w4 36 #[.slice px2 (newD N).pages.length pc2, .slice cx2 (newD N).cache.length cc2, .int .i64 (newD N).fuse, .bool (newD N).off]) HU.out)
  clear hw5 HU
  have H8G : Hid (w.heap.size ≤ w4.heap.size) := Lib.hid HB0
  clear HB0
  generalize w4.heap.size = g8 at *
  have HNE : Hid (g6 ≠ g8) := Lib.hid (Nat.ne_of_lt h6l)
  clear h6l
  have HN2 := Lib.hid hN2
  clear hN2 hN1
  go_wp2_with fail
  go_loopw [33] (fun i wr => ∃ (k : Nat) (d : Dev), k ≤ l.length ∧ k ≤ 60 ∧ i = .int .i64 k ∧ DGood d ∧ d.cache.length ≤ k ∧ Below w.heap.size w wr ∧ Opss wr (.slice x l.length cap) l ∧ DevAt wr g6 d ∧ DevAt wr g8 d) (fun i _ => l.length - (intOf i).toNat)
  case atStart => exact ⟨0, newD N, by omega, by omega, rfl, newD_good (Nat.le_trans HN2.out (by decide)), Nat.le_refl _, HB.out, HL.out, H6.out, H8.out⟩
  case round =>
    obtain ⟨k, d, hk, hk60, rfl, hgd, hcl, hb, h1, h2, h3⟩ := hrel
    replace HB := Lib.hid hb
    replace HL := Lib.hid h1
    replace H6 := Lib.hid h2
    replace H8 := Lib.hid h3
    have HGD := Lib.hid hgd
    have HCL := Lib.hid hcl
    have HC6 : Hid (d.cache.length ≤ 1000000) := Lib.hid (by omega)
    clear hb h1 h2 h3 hgd hcl
    obtain ⟨wA, hwA⟩ : ∃ x, x = wr := ⟨_, rfl⟩
    subst hwA
    by_cases hlt : k < l.length
    · obtain ⟨lb, lo, cap', hve, _, _, hcs, _⟩ := SlR.pos HL.out.1 (by decide) (by omega)
      simp only [Value.slice.injEq, true_and] at hve
      obtain ⟨rfl, rfl⟩ := hve
      have HO := Lib.hid (HL.out.2 _ (List.getElem_mem hlt))
      have HOC := Lib.hid (opC_length HO.out.1.1 l[k].2)
      have hrow := opss_at HL.out hlt
      have HW9 : Hid True := Lib.hid trivial
      generalize l[k] = om at *
      obtain ⟨o, mv⟩ := om
      dsimp only at *
      have hone := opC_one' HO.out.2.1
      have hoc := HOC.out
      go_upto_region 11 with (first
        | (refine Agg.gLoad 9 (opC o mv) rfl rfl rfl (by decide +kernel) hoc hrow ?_; simp only [Act.put, List.setIfInBounds_toArray, List.set_cons_succ, List.set_cons_zero])
        | (refine Agg.allocRow 31 op0.toArray rfl rfl (by kernel_rfl) ?_; simp only [Act.put, List.setIfInBounds_toArray, List.set_cons_succ, List.set_cons_zero])
        | (refine Agg.gStoreNew 9 (opC o mv) rfl rfl rfl rfl rfl rfl (by decide +kernel) hoc op0_size hone ?_; simp only [Act.put]))
      refine Agg.wp_at fun w31 hw31 => ?_
      have hb : Below wA.heap.size wA w31 := by rw [hw31.out]; repeat (first | exact Below.refl _ _ | refine Agg.bel_drew ?_ | refine Agg.bel_alloc ?_ _)
      replace HB := Lib.hid (HB.out.trans (hb.mono HB.out.size))
      replace HL := Lib.hid (HL.out.keep hb)
      replace H6 := Lib.hid (H6.out.keep hb)
      replace H8 := Lib.hid (H8.out.keep hb)
      replace HO := Lib.hid (HO.out.keep hb)
      clear hb
      have HOB : Hid (Blk w31 wA.heap.size 31 (opC o mv)) := by show Blk _ _ _ _; rw [hw31.out]; exact Blk.new wA 31 (opC o mv).toArray
      clear hw31 hrow hone hoc
      generalize wA.heap.size = go at *
      by_cases h60 : k = 60
      · subst h60
        go_wp2_with fail
        go_ret
        exact ⟨rfl, HB.out⟩
      · have h60b : ((k : Int) == 60) = false := by simp; omega
        have h60l : k < 60 := by omega
        have HGN := Lib.hid (doesP_good HO.out.1.1 HGD.out)
        have HLN := Lib.hid (Nat.le_trans (doesP_len o d) (Nat.succ_le_succ HCL.out))
        obtain ⟨gg, hgg⟩ : ∃ g, doesP o d = g := ⟨_, rfl⟩
        have HGG := Lib.hid hgg
        rw [hgg] at HGN HLN
        have HN6 : Hid (gg.2.cache.length ≤ 1000000) := Lib.hid (by have := HLN.out; omega)
        clear hgg
        obtain ⟨px, pc, cx, cc, h1, h2⟩ := H6.out
        have H61 := Lib.hid h1
        have HU := Lib.hid h2
        have HUO := Lib.hid (And.intro HO.out.1.1 HO.out.2.1)
        clear h1 h2
        have h2 := HOB.out
        have hoc := HOC.out
        have xH61_0 := H61.out.cell 0
        have xH61_1 := H61.out.cell 1
        have xH61_2 := H61.out.cell 2
        have xH61_3 := H61.out.cell 3
        have lH61 := H61.out.lt
        simp only [List.getElem?_cons_zero, List.getElem?_cons_succ] at xH61_0 xH61_1 xH61_2 xH61_3
        go_wp2_with (refine Agg.gLoadB 9 h2 hoc rfl rfl rfl (by decide +kernel) ?_; simp only [Act.put, List.setIfInBounds_toArray, List.set_cons_succ, List.set_cons_zero])
        clear h2 hoc
        clear xH61_0 xH61_1 xH61_2 xH61_3 lH61
        refine (does_R HO.out.1.1 HGD.out HC6.out HO.out.2.1 HU.out).mono ?_
        rintro e w32 ⟨un, rfl, hn, hb⟩
        replace HB := Lib.hid (HB.out.trans (hb.mono HB.out.size))
        replace HL := Lib.hid (HL.out.keep hb)
        replace H6 := Lib.hid (H6.out.keep hb)
        replace H8 := Lib.hid (H8.out.keep hb)
        replace HO := Lib.hid (HO.out.keep hb)
        replace HOB := Lib.hid (HOB.out.keep hb)
        clear hb
        rw [HGG.out] at hn
        rw [HGG.out]
        have HN := Lib.hid hn.read
        obtain ⟨pn, pnc, cn, cnc, rfl⟩ := DevR.shape hn.read
        clear hn HUO HU H61
        go_upto_region 13 with (fail)
        have HA11 : Hid (g6 < w32.heap.size ∧ g8 < w32.heap.size) := Lib.hid ⟨H6.out.lt, H8.out.lt⟩
        refine Agg.wp_at fun w33 hw33 => ?_
        have hb : Below w32.heap.size w32 w33 := by rw [hw33.out]; repeat (first | exact Below.refl _ _ | refine Agg.bel_drew ?_ | refine Agg.bel_alloc ?_ _)
        replace HB := Lib.hid (HB.out.trans (hb.mono HB.out.size))
        replace HL := Lib.hid (HL.out.keep hb)
        replace H6 := Lib.hid (H6.out.keep hb)
        replace H8 := Lib.hid (H8.out.keep hb)
        replace HO := Lib.hid (HO.out.keep hb)
        replace HOB := Lib.hid (HOB.out.keep hb)
        replace HN := Lib.hid (HN.out.keep hb)
        clear hb
        have H11 : Hid (DevAt w33 w32.heap.size gg.2) := Lib.hid (DevAt.mk' (by rw [hw33.out]; exact Blk.new w32 36 #[.slice pn gg.2.pages.length pnc, .slice cn gg.2.cache.length cnc, .int .i64 gg.2.fuse, .bool gg.2.off]) HN.out)
        clear hw33 HN
        generalize w32.heap.size = g11 at *
        obtain ⟨px3, pc3, cx3, cc3, h1, h2⟩ := H8.out
        have H81 := Lib.hid h1
        have HU8 := Lib.hid h2
        clear h1 h2
        have h2 := HOB.out
        have hoc := HOC.out
        have xH81_0 := H81.out.cell 0
        have xH81_1 := H81.out.cell 1
        have xH81_2 := H81.out.cell 2
        have xH81_3 := H81.out.cell 3
        have lH81 := H81.out.lt
        simp only [List.getElem?_cons_zero, List.getElem?_cons_succ] at xH81_0 xH81_1 xH81_2 xH81_3
        go_wp2_with (refine Agg.gLoadB 9 h2 hoc rfl rfl rfl (by decide +kernel) ?_; simp only [Act.put, List.setIfInBounds_toArray, List.set_cons_succ, List.set_cons_zero])
        clear h2 hoc
        clear xH81_0 xH81_1 xH81_2 xH81_3 lH81
        refine (wants_R HO.out.1.1 HGD.out HC6.out HO.out.2.1 HU8.out).mono ?_
        rintro e w34 ⟨un, rfl, hn, hb⟩
        replace HB := Lib.hid (HB.out.trans (hb.mono HB.out.size))
        replace HL := Lib.hid (HL.out.keep hb)
        replace H6 := Lib.hid (H6.out.keep hb)
        replace H8 := Lib.hid (H8.out.keep hb)
        replace HO := Lib.hid (HO.out.keep hb)
        replace HOB := Lib.hid (HOB.out.keep hb)
        replace H11 := Lib.hid (H11.out.keep hb)
        replace HU8 := Lib.hid (HU8.out.keep hb)
        clear hb
        rw [HGG.out] at hn
        rw [HGG.out]
        have HN := Lib.hid hn
        obtain ⟨pw, pwc, cw, cwc, rfl⟩ := DevR.shape hn
        clear hn HU8 H81
        go_upto_region 14 with (fail)
        have HA13 : Hid (g6 < w34.heap.size ∧ g8 < w34.heap.size) := Lib.hid ⟨H6.out.lt, H8.out.lt⟩
        refine Agg.wp_at fun w35 hw35 => ?_
        have hb : Below w34.heap.size w34 w35 := by rw [hw35.out]; repeat (first | exact Below.refl _ _ | refine Agg.bel_drew ?_ | refine Agg.bel_alloc ?_ _)
        replace HB := Lib.hid (HB.out.trans (hb.mono HB.out.size))
        replace HL := Lib.hid (HL.out.keep hb)
        replace H6 := Lib.hid (H6.out.keep hb)
        replace H8 := Lib.hid (H8.out.keep hb)
        replace HO := Lib.hid (HO.out.keep hb)
        replace HOB := Lib.hid (HOB.out.keep hb)
        replace H11 := Lib.hid (H11.out.keep hb)
        replace HN := Lib.hid (HN.out.keep hb)
        clear hb
        have H13 : Hid (DevAt w35 w34.heap.size gg.2) := Lib.hid (DevAt.mk' (by rw [hw35.out]; exact Blk.new w34 36 #[.slice pw gg.2.pages.length pwc, .slice cw gg.2.cache.length cwc, .int .i64 gg.2.fuse, .bool gg.2.off]) HN.out)
        clear hw35 HN HGG
        generalize w34.heap.size = g13 at *
        obtain ⟨p11, c11, x11, y11, h1, h2⟩ := H11.out
        obtain ⟨p13, c13, x13, y13, h3, h4⟩ := H13.out
        have HB11 := Lib.hid h1
        have HU11 := Lib.hid h2
        have HB13 := Lib.hid h3
        have HU13 := Lib.hid h4
        clear h1 h2 h3 h4 H11 H13 HO
        refine Agg.listR 9 (by kernel_rfl) ?_
        simp only [List.take_succ_cons, List.take_zero, List.drop_succ_cons, List.drop_zero]
        refine Agg.chMove rfl rfl rfl rfl ?_
        refine Agg.chMove rfl rfl rfl rfl ?_
        refine Agg.chNe false (by simp) rfl rfl rfl rfl rfl ?_
        refine Agg.chMove rfl rfl rfl rfl ?_
        refine Agg.chRowB 4 HB11.out rfl (by decide +kernel) rfl rfl rfl rfl ?_
        refine Agg.chRowB 4 HB13.out rfl (by decide +kernel) rfl rfl rfl rfl ?_
        refine Agg.chCall Try.func13 rfl (by kernel_rfl) rfl rfl rfl rfl (fun W hb => rSame_R HGN.out HGN.out (DevR.keep HU11.out hb) (DevR.keep HU13.out hb) true (by simp)) ?_
        refine Agg.chNot rfl rfl rfl rfl ?_
        refine Agg.chPick rfl rfl rfl rfl rfl ?_
        refine Agg.chEnd ?_
        intro vs w36 hb _
        show Exit.then _ _ Exit.normal _ _
        simp only [List.reverse, List.reverseAux, Agg.fill, List.set_cons_succ, List.set_cons_zero]
        replace HB := Lib.hid (HB.out.trans (hb.mono HB.out.size))
        replace HL := Lib.hid (HL.out.keep hb)
        replace H6 := Lib.hid (H6.out.keep hb)
        replace H8 := Lib.hid (H8.out.keep hb)
        replace HOB := Lib.hid (HOB.out.keep hb)
        replace HB11 := Lib.hid (HB11.out.keep hb)
        replace HB13 := Lib.hid (HB13.out.keep hb)
        replace HU11 := Lib.hid (HU11.out.keep hb)
        replace HU13 := Lib.hid (HU13.out.keep hb)
        clear hb
        obtain ⟨ec, hec⟩ : ∃ e, gg.1 = e := ⟨_, rfl⟩
        rw [hec]
        clear hec
        go_upto_region 16 with (fail)
        go_cut [66] from 61 to 66 (fun v wx => (∃ b : Bool, v = .bool b) ∧ wx = w36)
        case first =>
          by_cases e0 : ec = 0
          · have e0b : (ec == 0) = true := by simp [e0]
            go_wp2_with fail
            go_meet
            exact ⟨⟨_, rfl⟩, rfl⟩
          · have e0b : (ec == 0) = false := by simp [e0]
            go_wp2_with fail
            go_meet
            exact ⟨⟨_, rfl⟩, rfl⟩
        case rest =>
          obtain ⟨⟨b, rfl⟩, hwx⟩ := hcut
          replace hwx := hwx.symm
          subst hwx
          go_upto_if 66 with (fail)
          go_cut [] from 67 to 68 (fun wx => ∃ d' : Dev, DGood d' ∧ d'.cache.length ≤ k + 1 ∧ Below w.heap.size w wx ∧ DevAt wx g6 d' ∧ DevAt wx g8 d' ∧ Blk wx go 31 (opC o mv))
          case first =>
            cases b
            · go_wp2_with fail
              go_meet
              exact ⟨d, HGD.out, Nat.le_succ_of_le HCL.out, HB.out, H6.out, H8.out, HOB.out⟩
            · go_upto_region 17 with (fail)
              refine Agg.heldBegin (S := fun z => Blk z g11 36 [.slice p11 gg.2.pages.length c11, .slice x11 gg.2.cache.length y11, .int .i64 gg.2.fuse, .bool gg.2.off] ∧ Blk z g13 36 [.slice p13 gg.2.pages.length c13, .slice x13 gg.2.cache.length y13, .int .i64 gg.2.fuse, .bool gg.2.off]) 4 (by kernel_rfl) rfl ?_
              have hb0 : Below w36.heap.size w36 w36.drew := bel_drew (Below.refl _ _)
              generalize w36.drew = z0 at hb0 ⊢
              have hb := hb0
              replace HB := Lib.hid (HB.out.trans (hb.mono HB.out.size))
              replace HL := Lib.hid (HL.out.keep hb)
              replace H6 := Lib.hid (H6.out.keep hb)
              replace H8 := Lib.hid (H8.out.keep hb)
              replace HOB := Lib.hid (HOB.out.keep hb)
              replace HB11 := Lib.hid (HB11.out.keep hb)
              replace HB13 := Lib.hid (HB13.out.keep hb)
              replace HU11 := Lib.hid (HU11.out.keep hb)
              replace HU13 := Lib.hid (HU13.out.keep hb)
              clear hb
              refine Agg.heldTake (i := 0) (by decide +kernel) rfl rfl rfl (v := .agg #[.slice p11 gg.2.pages.length c11, .slice x11 gg.2.cache.length y11, .int .i64 gg.2.fuse, .bool gg.2.off]) (fun z hz => by exact Agg.run_rowB 0 4 _ hz.1 rfl rfl (by decide +kernel) rfl rfl) ⟨HB11.out, HB13.out⟩ ?_
              refine Agg.heldTake (i := 1) (by decide +kernel) rfl rfl rfl (v := .agg #[.slice p13 gg.2.pages.length c13, .slice x13 gg.2.cache.length y13, .int .i64 gg.2.fuse, .bool gg.2.off]) (fun z hz => by exact Agg.run_rowB 0 4 _ hz.2 rfl rfl (by decide +kernel) rfl rfl) ⟨HB11.out, HB13.out⟩ ?_
              obtain ⟨q1, q2, q3, q4, hq1, hq2⟩ := H6.out
              refine Agg.heldSt (.agg #[.slice p11 gg.2.pages.length c11, .slice x11 gg.2.cache.length y11, .int .i64 gg.2.fuse, .bool gg.2.off]) [.slice p11 gg.2.pages.length c11, .slice x11 gg.2.cache.length y11, .int .i64 gg.2.fuse, .bool gg.2.off] hq1 rfl (by kernel_rfl) (by simp) (by simp [Value.oneCell']) (i := 2) (by decide +kernel) rfl rfl rfl rfl rfl rfl (fun z1 hb51 hg51 => ⟨⟨HB11.out.far' hg51 (by have := HA11.out.1; omega), HB13.out.far' hg51 (by have := HA13.out.1; omega)⟩, ?_⟩)
              have hb51' : Blk z1 g6 36 [.slice p11 gg.2.pages.length c11, .slice x11 gg.2.cache.length y11, .int .i64 gg.2.fuse, .bool gg.2.off] := hb51
              have h61 := DevAt.put ⟨q1, q2, q3, q4, hq1, hq2⟩ HGN.out.ok HU11.out hb51' hg51
              have h81 := DevAt.far H8.out ⟨q1, q2, q3, q4, hq1, hq2⟩ HGD.out.ok hg51 (Ne.symm HNE.out)
              have hu131 := DevR.far HU13.out HGN.out.ok hq1 hg51
              have hob1 := HOB.out.far' hg51 (blk_ne HOB.out hq1 opDne)
              have hbb1 := HB.out.trans (grown_below hg51 HB.out.size (fun j hj => (by cases hj; exact H6G.out)))
              have h111 := HB11.out.far' hg51 (by have := HA11.out.1; omega)
              have h131 := HB13.out.far' hg51 (by have := HA13.out.1; omega)
              obtain ⟨r1, r2, r3, r4, hr1, hr2⟩ := h81
              refine Agg.heldSt (.agg #[.slice p13 gg.2.pages.length c13, .slice x13 gg.2.cache.length y13, .int .i64 gg.2.fuse, .bool gg.2.off]) [.slice p13 gg.2.pages.length c13, .slice x13 gg.2.cache.length y13, .int .i64 gg.2.fuse, .bool gg.2.off] hr1 rfl (by kernel_rfl) (by simp) (by simp [Value.oneCell']) (i := 3) (by decide +kernel) rfl rfl rfl rfl rfl rfl (fun z2 hb52 hg52 => ⟨⟨h111.far' hg52 (by have := HA11.out.2; omega), h131.far' hg52 (by have := HA13.out.2; omega)⟩, ?_⟩)
              have hb52' : Blk z2 g8 36 [.slice p13 gg.2.pages.length c13, .slice x13 gg.2.cache.length y13, .int .i64 gg.2.fuse, .bool gg.2.off] := hb52
              have h82 := DevAt.put ⟨r1, r2, r3, r4, hr1, hr2⟩ HGN.out.ok hu131 hb52' hg52
              have h62 := h61.far ⟨r1, r2, r3, r4, hr1, hr2⟩ HGN.out.ok hg52 HNE.out
              have hob2 := hob1.far' hg52 (blk_ne hob1 hr1 opDne)
              have hbb2 := hbb1.trans (grown_below hg52 hbb1.size (fun j hj => (by cases hj; exact H8G.out)))
              refine Agg.heldDone (by decide +kernel) ?_
              simp only [List.set_cons_succ, List.set_cons_zero]
              clear hb0 hq1 hq2 hr1 hr2 hb51 hg51 hb52 hg52 h61 hu131 hob1 hbb1 hb51' hb52' h111 h131
              go_wp2_with fail
              go_meet
              exact ⟨gg.2, HGN.out, HLN.out, hbb2, h62, h82, hob2⟩
          case rest =>
            obtain ⟨d', hd1, hd2, hd3, hd4, hd5, hd6⟩ := hcut
            clear HGD HCL HC6 HGN HLN HN6 HB H6 H8 HOB HB11 HB13 HU11 HU13 HL
            have HGD := Lib.hid hd1
            have HCL := Lib.hid hd2
            have HC6 : Hid (d'.cache.length ≤ 1000000) := Lib.hid (by omega)
            have HB := Lib.hid hd3
            have H6 := Lib.hid hd4
            have H8 := Lib.hid hd5
            have HOB := Lib.hid hd6
            clear hd1 hd2 hd3 hd4 hd5 hd6
            have HPG : Hid (wc.cell? ⟨go, 1, none⟩ = some (.int .i64 o.fl.page)) := Lib.hid (by have h := HOB.out.cell 1; rw [h]; exact opC_page mv)
            obtain ⟨rr, hrr⟩ : ∃ r, readP d' o.fl.page = r := ⟨_, rfl⟩
            have HRR := Lib.hid hrr
            have HRB : Hid (BOk rr.2) := Lib.hid (by rw [← hrr]; exact readP_bok HGD.out _)
            clear hrr
            obtain ⟨px4, pc4, cx4, cc4, h1, h2⟩ := H6.out
            have H61 := Lib.hid h1
            have HU := Lib.hid h2
            clear h1 h2
            have hpg := HPG.out
            have xH61_0 := H61.out.cell 0
            have xH61_1 := H61.out.cell 1
            have xH61_2 := H61.out.cell 2
            have xH61_3 := H61.out.cell 3
            have lH61 := H61.out.lt
            simp only [List.getElem?_cons_zero, List.getElem?_cons_succ] at xH61_0 xH61_1 xH61_2 xH61_3
            go_wp2_with fail
            clear xH61_0 xH61_1 xH61_2 xH61_3 lH61
            refine (read_R HGD.out HC6.out HU.out o.fl.page).mono ?_
            rintro e w101 ⟨rfl, hb⟩
            replace HB := Lib.hid (HB.out.trans (hb.mono HB.out.size))
            replace H6 := Lib.hid (H6.out.keep hb)
            replace H8 := Lib.hid (H8.out.keep hb)
            replace HOB := Lib.hid (HOB.out.keep hb)
            replace HU := Lib.hid (HU.out.keep hb)
            clear hb
            rw [HRR.out]
            clear HU H61 HPG hpg
            have hls := bok_cells HRB.out
            go_upto_region 19 with (first
              | (refine Agg.allocRow 46 (blkC zeroB).toArray rfl rfl (by kernel_rfl) ?_; simp only [Act.put, List.setIfInBounds_toArray, List.set_cons_succ, List.set_cons_zero])
              | (refine Agg.gStoreNew 132 (blkC rr.2) rfl rfl rfl rfl rfl rfl (by decide +kernel) hls zero132 (blkC_one _) ?_; simp only [Act.put]))
            refine Agg.wp_at fun w102 hw102 => ?_
            have hb : Below w101.heap.size w101 w102 := by rw [hw102.out]; repeat (first | exact Below.refl _ _ | refine Agg.bel_drew ?_ | refine Agg.bel_alloc ?_ _)
            replace HB := Lib.hid (HB.out.trans (hb.mono HB.out.size))
            replace H6 := Lib.hid (H6.out.keep hb)
            replace H8 := Lib.hid (H8.out.keep hb)
            replace HOB := Lib.hid (HOB.out.keep hb)
            clear hb
            have H15 : Hid (Blk w102 w101.heap.size 46 (blkC rr.2)) := by show Blk _ _ _ _; rw [hw102.out]; exact Blk.new w101 46 (blkC rr.2).toArray
            clear hw102
            generalize w101.heap.size = g15 at *
            have HPG : Hid (w102.cell? ⟨go, 1, none⟩ = some (.int .i64 o.fl.page)) := Lib.hid (by have h := HOB.out.cell 1; rw [h]; exact opC_page mv)
            obtain ⟨px5, pc5, cx5, cc5, h1, h2⟩ := H8.out
            have H81 := Lib.hid h1
            have HU := Lib.hid h2
            clear h1 h2
            have hpg := HPG.out
            have xH81_0 := H81.out.cell 0
            have xH81_1 := H81.out.cell 1
            have xH81_2 := H81.out.cell 2
            have xH81_3 := H81.out.cell 3
            have lH81 := H81.out.lt
            simp only [List.getElem?_cons_zero, List.getElem?_cons_succ] at xH81_0 xH81_1 xH81_2 xH81_3
            go_wp2_with fail
            clear xH81_0 xH81_1 xH81_2 xH81_3 lH81
            refine (rRead_R HGD.out HC6.out HU.out o.fl.page).mono ?_
            rintro e w103 ⟨rfl, hb⟩
            replace HB := Lib.hid (HB.out.trans (hb.mono HB.out.size))
            replace H6 := Lib.hid (H6.out.keep hb)
            replace H8 := Lib.hid (H8.out.keep hb)
            replace H15 := Lib.hid (H15.out.keep hb)
            replace HU := Lib.hid (HU.out.keep hb)
            clear hb
            rw [HRR.out]
            clear HU H81 HPG HRR hpg
            go_upto_region 20 with (first
              | (refine Agg.allocRow 46 (blkC zeroB).toArray rfl rfl (by kernel_rfl) ?_; simp only [Act.put, List.setIfInBounds_toArray, List.set_cons_succ, List.set_cons_zero])
              | (refine Agg.gStoreNew 132 (blkC rr.2) rfl rfl rfl rfl rfl rfl (by decide +kernel) hls zero132 (blkC_one _) ?_; simp only [Act.put]))
            refine Agg.wp_at fun w104 hw104 => ?_
            have hb : Below w103.heap.size w103 w104 := by rw [hw104.out]; repeat (first | exact Below.refl _ _ | refine Agg.bel_drew ?_ | refine Agg.bel_alloc ?_ _)
            replace HB := Lib.hid (HB.out.trans (hb.mono HB.out.size))
            replace H6 := Lib.hid (H6.out.keep hb)
            replace H8 := Lib.hid (H8.out.keep hb)
            replace H15 := Lib.hid (H15.out.keep hb)
            clear hb
            have H16 : Hid (Blk w104 w103.heap.size 46 (blkC rr.2)) := by show Blk _ _ _ _; rw [hw104.out]; exact Blk.new w103 46 (blkC rr.2).toArray
            clear hw104 hls
            generalize w103.heap.size = g16 at *
            have hnz : (rr.1 != rr.1) = false := by simp
            refine Agg.listR 8 (by kernel_rfl) ?_
            simp only [List.take_succ_cons, List.take_zero, List.drop_succ_cons, List.drop_zero]
            refine Agg.chMove rfl rfl rfl rfl ?_
            refine Agg.chMove rfl rfl rfl rfl ?_
            refine Agg.chNe false (by simp) rfl rfl rfl rfl rfl ?_
            refine Agg.chMove rfl rfl rfl rfl ?_
            refine Agg.chRowB 132 H15.out (bok_cells HRB.out) (by decide +kernel) rfl rfl rfl rfl ?_
            refine Agg.chRowB 132 H16.out (bok_cells HRB.out) (by decide +kernel) rfl rfl rfl rfl ?_
            refine Agg.chBin (v := .bool false) rfl rfl rfl rfl rfl (fun w => flatBlk.gd .neq _ _ _ _ w) (fun w => blk_neq rr.2 rr.2 HRB.out HRB.out true (by simp) w) ?_
            refine Agg.chPick rfl rfl rfl rfl rfl ?_
            refine Agg.chEnd ?_
            intro vs w105 hb _
            show Exit.then _ _ Exit.normal _ _
            simp only [List.reverse, List.reverseAux, Agg.fill, List.set_cons_succ, List.set_cons_zero]
            replace HB := Lib.hid (HB.out.trans (hb.mono HB.out.size))
            replace H6 := Lib.hid (H6.out.keep hb)
            replace H8 := Lib.hid (H8.out.keep hb)
            replace H15 := Lib.hid (H15.out.keep hb)
            clear hb
            go_wp2_with fail
            exact ⟨⟨k + 1, d', by omega, by omega, rfl, HGD.out, HCL.out, HB.out, HL0.out.keep HB.out, H6.out, H8.out⟩, by simp [intOf]; omega⟩
    · obtain rfl : k = l.length := by omega
      go_wp2_with fail
      go_ret
      exact ⟨rfl, HB.out⟩
theorem DeviceRuns_walk (n : Int) (v : Value) (f : Nat) (w : World) (_ : (Lit.int .i64 n).wf = true) (h1 : Agg.Good Try.prog w f 50 [v]) :
    Calls Try.prog 4 #[.int .i64 n, v] w fun e w' => e = .returned (.bool true) ∧ Below w.heap.size w w' := by
  obtain ⟨l, hl⟩ := good_ops h1
  obtain ⟨x, cap, rfl, _⟩ := hl.1.shape
  exact runs_walk n x l.length cap l w hl
end Go.Proofs.Ytapdigcpaebjiaa
