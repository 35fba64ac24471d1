/-
  DEVICES: the document's Says, Read.
-/
import Derived.Test.YtgfmpkcgkjpgnaaFdDvO
section
namespace Go.Proofs.Ytgfmpkcgkjpgnaa
open Go.ChangeShapes Go.WideShapes Go.ChangeAt Go.RowKit Agg Pg Dv

theorem saysP_zero (P : List (List Sec)) (k : Int) : saysP P [] k = P.getD k.toNat zeroB := rfl
theorem saysP_succ (P : List (List Sec)) (l : List (Int × List Sec)) (k : Int) (r : Nat) (h : r < l.length) : saysP P (l.take (r + 1)) k = if l[r].1 = k then l[r].2 else saysP P (l.take r) k := by
  unfold saysP
  rw [ofPage_succ k l r h]
  by_cases e : l[r].1 = k <;> simp [e]
theorem saysP_bok {P : List (List Sec)} (hP : ∀ b ∈ P, BOk b) {l : List (Int × List Sec)} (hl : ∀ x ∈ l, BOk x.2) (k : Int) : BOk (saysP P l k) := by
  unfold saysP
  cases h : (ofPage k l).getLast? with
  | none => exact getD_bok hP _
  | some b =>
    have hb := List.mem_of_getLast? h
    obtain ⟨x, hx, rfl⟩ := List.mem_map.1 hb
    exact hl x (List.mem_filter.1 hx).1
set_option maxHeartbeats 4000000 in
set_option maxRecDepth 100000 in
theorem rSays_any (P : List (List Sec)) (l : List (Int × List Sec)) (z : Int) (q : Bool) (x y : Option Addr) (cap cm : Nat) (p : Nat) (hpl : p < P.length) (w : World)
    (hd2 : l.length ≤ 1000000) (hp : Pgs w (.slice x P.length cap) P) (hv : Wrs w (.slice y l.length cm) l) (hP : ∀ b ∈ P, BOk b) (hC : ∀ x ∈ l, BOk x.2) :
    Calls Try.prog 54 #[.agg #[.slice x P.length cap, .slice y l.length cm, .int .i64 z, .bool q], .int .i64 (p : Int)] w fun e w' => e = .returned (.agg (blkC (saysP P l p)).toArray) ∧ Below w.heap.size w w' := by
  obtain ⟨b, o, cap', hve, _, hmx, _, _⟩ := SlR.pos hp (by decide) (by omega)
  simp only [Value.slice.injEq, true_and] at hve
  obtain ⟨rfl, rfl⟩ := hve
  unfold maxLen at hmx
  have HP := Lib.hid hp
  have HV := Lib.hid hv
  have HV0 := HV
  have HPB := Lib.hid hP
  have HCB := Lib.hid hC
  have HW : Hid (∀ x ∈ l, (wrC x).length = 133) := Lib.hid (fun x hx => wrC_length x (hC x hx))
  have HPL := Lib.hid hpl
  have hln : (l.length : Int) ≤ 1000000 := by omega
  have hpn : (p : Int) < P.length := by omega
  clear hp hv hP hC
  have HB := Lib.hid (Below.refl w.heap.size w)
  go_enter Try.func54, Try.ntmps54
  go_upto_region 1 with (refine Agg.allocRow 64 (blkC zeroB).toArray rfl rfl (by kernel_rfl) ?_; simp only [Act.put, List.setIfInBounds_toArray, List.set_cons_succ, List.set_cons_zero])
  refine Agg.wp_at fun w1 hw1 => ?_
  have hb : Below w.heap.size w w1 := by rw [hw1.out]; repeat (first | exact Below.refl _ _ | refine Agg.bel_drew ?_ | refine Agg.bel_alloc ?_ _)
  replace HB := Lib.hid (HB.out.trans (hb.mono HB.out.size))
  replace HP := Lib.hid (HP.out.keep hb)
  replace HV := Lib.hid (HV.out.keep hb)
  clear hb
  have H1 : Hid (Blk w1 w.heap.size 46 [.slice (some ⟨b, o, none⟩) P.length cap, .slice y l.length cm, .int .i64 z, .bool q]) := by show Blk _ _ _ _; rw [hw1.out]; exact (Blk.new w 46 #[.slice (some ⟨b, o, none⟩) P.length cap, .slice y l.length cm, .int .i64 z, .bool q]).al _
  have H2 : Hid (Blk w1 (w.heap.size + 1) 64 (blkC zeroB)) := by show Blk _ _ _ _; rw [hw1.out]; exact Blk.newAt (w.alloc _) 64 (blkC zeroB).toArray _ (by simp)
  clear hw1
  have hcs := flat_at blkC 132 (by decide) HP.out (fun b hb => bok_cells (HPB.out b hb)) hpl
  have hbo := HPB.out _ (List.getElem_mem hpl)
  have h132 := bok_cells hbo
  have h1 := blkC_one P[p]
  have HGP : Hid (P.getD p zeroB = P[p]) := Lib.hid (by rw [List.getD_eq_getElem?_getD, List.getElem?_eq_getElem hpl]; rfl)
  generalize P[p] = s at *
  have xH1_0 := H1.out.cell 0
  have xH1_1 := H1.out.cell 1
  have xH1_2 := H1.out.cell 2
  have xH1_3 := H1.out.cell 3
  have lH1 := H1.out.lt
  simp only [List.getElem?_cons_zero, List.getElem?_cons_succ] at xH1_0 xH1_1 xH1_2 xH1_3
  go_upto_region 3 with (first
    | (refine Agg.gLoad 132 (blkC s) rfl rfl rfl (by decide +kernel) h132 hcs ?_; simp only [Act.put, List.setIfInBounds_toArray, List.set_cons_succ, List.set_cons_zero])
    | (refine Agg.allocRow 64 (blkC zeroB).toArray rfl rfl (by kernel_rfl) ?_; simp only [Act.put, List.setIfInBounds_toArray, List.set_cons_succ, List.set_cons_zero])
    | (refine Agg.gStoreNew 132 (blkC s) rfl rfl rfl rfl rfl rfl (by decide +kernel) h132 zero132 h1 ?_; simp only [Act.put]))
  have HS := Lib.hid (Blk.new w1 64 (blkC s).toArray)
  have HB4 := Lib.hid (bel_alloc HB.out (.cells (blkC s).toArray 64))
  have H24 := Lib.hid (H2.out.al (.cells (blkC s).toArray 64))
  have H14 := Lib.hid (H1.out.al (.cells (blkC s).toArray 64))
  have HS2 : Hid (w.heap.size + 1 < w1.heap.size) := Lib.hid H2.out.lt
  obtain ⟨bs, hbs⟩ : ∃ b, w1.heap.size = b := ⟨_, rfl⟩
  rw [hbs] at HS HS2 ⊢
  refine Agg.wp_at fun w4 hw4 => ?_
  rw [← hw4.out] at HS HB4 H24 H14
  clear xH1_0 xH1_1 xH1_2 xH1_3 lH1
  clear hw4 hbs hcs h1 h132 HP HV H1 H2 HB
  have HB := HB4
  have HBO := Lib.hid hbo
  clear HB4 hbo
  simp only [World.size_alloc]
  go_loopw [16, 7] (fun i _ wr => ∃ r : Nat, r ≤ l.length ∧ i = .int .i64 r ∧ Below w.heap.size w wr ∧ Blk wr bs 64 (blkC (saysP P (l.take r) p)) ∧ Blk wr (w.heap.size + 1) 64 (blkC zeroB)) (fun i _ _ => l.length - (intOf i).toNat)
  case atStart => exact ⟨0, by omega, rfl, HB.out, by rw [List.take_zero, saysP_zero, Int.toNat_natCast, HGP.out]; exact HS.out, H24.out⟩
  case round =>
    obtain ⟨r, hr, rfl, hb, hs, h2⟩ := hrel
    replace HB := Lib.hid hb
    have HV := Lib.hid (SlR.keep HV0.out hb)
    replace HS := Lib.hid hs
    have H2 := Lib.hid h2
    have HSO := Lib.hid (saysP_bok HPB.out (l := l.take r) (fun x hx => HCB.out x (List.mem_of_mem_take hx)) p)
    clear hb hs h2 H24 H14
    obtain ⟨wA, hwA⟩ : ∃ x, x = wr := ⟨_, rfl⟩
    subst hwA
    by_cases hlt : r < l.length
    · obtain ⟨b2, o2, cap2, hve, _, _, _, _⟩ := SlR.pos HV.out (by decide) (by omega)
      simp only [Value.slice.injEq, true_and] at hve
      obtain ⟨rfl, rfl⟩ := hve
      have hcs := flat_at wrC 133 (by decide) HV.out HW.out hlt
      have h133 := HW.out _ (List.getElem_mem hlt)
      have h1 := wrC_one l[r]
      have HBO2 := Lib.hid (HCB.out _ (List.getElem_mem hlt))
      have HST := Lib.hid (saysP_succ P l p r hlt)
      generalize l[r] = u at *
      generalize saysP P (l.take r) p = cur at *
      go_upto_region 5 with (first
        | (refine Agg.gLoad 133 (wrC u) rfl rfl rfl (by decide +kernel) h133 hcs ?_; simp only [Act.put, List.setIfInBounds_toArray, List.set_cons_succ, List.set_cons_zero])
        | (refine Agg.allocRow 88 wr0.toArray rfl rfl (by kernel_rfl) ?_; simp only [Act.put, List.setIfInBounds_toArray, List.set_cons_succ, List.set_cons_zero])
        | (refine Agg.gStoreNew 133 (wrC u) rfl rfl rfl rfl rfl rfl (by decide +kernel) h133 wr0_size h1 ?_; simp only [Act.put]))
      have HBX := Lib.hid (Blk.new wA 88 (wrC u).toArray)
      have hbA : Below wA.heap.size wA (wA.alloc (.cells (wrC u).toArray 88)) := (Below.refl _ _).alloc (Nat.le_refl _) _
      have HBB := Lib.hid (HB.out.trans (hbA.mono HB.out.size))
      have HSB := Lib.hid (HS.out.keep hbA)
      have H2B := Lib.hid (H2.out.keep hbA)
      refine Agg.wp_at fun wB hwB => ?_
      rw [← hwB.out] at HBX HSB HBB H2B
      clear hwB hcs h1 h133 hbA HV HB HS H2
      have e0 := HBX.out.cell 0
      simp only [wrC, List.getElem?_cons_zero] at e0
      by_cases hs : u.1 = p
      · have hsb : (u.1 == (p : Int)) = true := by simpa using hs
        have h132 := bok_cells HBO2.out
        have h132c := bok_cells HSO.out
        have HST2 : Hid (saysP P (l.take (r + 1)) p = u.2) := Lib.hid (by rw [HST.out, if_pos hs])
        have hc132 : ∀ i v, (blkC u.2)[i]? = some v → wB.cell? ⟨wA.heap.size, 1 + i, none⟩ = some v := fun i v hi => by
          rw [HBX.out.cell, show 1 + i = i + 1 by omega]; exact hi
        have hsb2 := HSB.out
        clear hs HST
        go_wp2_with (first
          | (refine Agg.gLoad 132 (blkC u.2) rfl rfl rfl (by decide +kernel) h132 hc132 ?_; simp only [Act.put, List.setIfInBounds_toArray, List.set_cons_succ, List.set_cons_zero])
          | (refine Agg.gStoreB 132 (blkC u.2) hsb2 rfl rfl rfl rfl rfl (by decide +kernel) h132c h132 (blkC_one _) (fun w14 hb14 hg14 => ?_)))
        have h2c := H2B.out.far' hg14 (by have := HS2.out; omega)
        have hbc := HBB.out.trans (grown_below hg14 HBB.out.size (fun j hj => by cases hj; have := HS2.out; omega))
        go_wp2_with fail
        exact ⟨⟨r + 1, by omega, by go_num, hbc, by rw [HST2.out]; exact hb14, h2c⟩, by simp [intOf]; omega⟩
      · have hsb : (u.1 == (p : Int)) = false := by simpa using hs
        have HST2 : Hid (saysP P (l.take (r + 1)) p = cur) := Lib.hid (by rw [HST.out, if_neg hs])
        clear hs HST
        go_wp2_with fail
        go_roundw
        case rel => exact ⟨r + 1, by omega, by go_num, HBB.out, by rw [HST2.out]; exact HSB.out, H2B.out⟩
        case measure => simp [intOf]; omega
    · obtain rfl : r = l.length := by omega
      rw [List.take_length] at HS HSO
      have hs2 := HS.out
      have h2 := H2.out
      have h132 := bok_cells HSO.out
      have hsz := HB.out.size
      go_wp2_with (first
        | (refine Agg.gLoadB 132 hs2 h132 rfl rfl rfl (by decide +kernel) ?_; simp only [Act.put, List.setIfInBounds_toArray, List.set_cons_succ, List.set_cons_zero])
        | (refine Agg.gStoreB 132 (blkC (saysP P l p)) h2 rfl rfl rfl rfl rfl (by decide +kernel) zero132 h132 (blkC_one _) (fun w14 hb14 hg14 => ?_)))
      refine bodyPost_ret (results_row1 (m := 132) rfl hb14 rfl (by decide +kernel) h132) rfl ⟨rfl, ?_⟩
      exact HB.out.trans (grown_below hg14 hsz (fun j hj => by cases hj; omega))
end Go.Proofs.Ytgfmpkcgkjpgnaa
end
section
/-
  DEVICES: the document's Read.
-/
namespace Go.Proofs.Ytgfmpkcgkjpgnaa
open Go.ChangeShapes Go.WideShapes Go.ChangeAt Go.RowKit Agg Pg Dv

end Go.Proofs.Ytgfmpkcgkjpgnaa
end
section
/-
  DEVICES: the document's Light.
-/
namespace Go.Proofs.Ytgfmpkcgkjpgnaa
open Go.ChangeShapes Go.WideShapes Go.ChangeAt Go.RowKit Agg Pg Dv

/-- a device that is read -/
def DevR (w : World) (v : Value) (d : Dev) : Prop := ∃ (x y : Option Addr) (cap cm : Nat), v = .agg #[.slice x d.pages.length cap, .slice y d.cache.length cm, .int .i64 d.fuse, .bool d.off] ∧ Pgs w (.slice x d.pages.length cap) d.pages ∧ Wrs w (.slice y d.cache.length cm) d.cache
theorem DevR.keep {w w' : World} {v : Value} {d : Dev} (h : DevR w v d) (hb : Below w.heap.size w w') : DevR w' v d := by
  obtain ⟨x, y, cap, cm, h1, h2, h3⟩ := h
  exact ⟨x, y, cap, cm, h1, SlR.keep h2 hb, SlR.keep h3 hb⟩
theorem DevO.read {base : Nat} {w : World} {v : Value} {d : Dev} (h : DevO base w v d) : DevR w v d := by
  obtain ⟨p, c, h1, h2, h3⟩ := h
  have hp := ownSl h2
  have hc := ownSl h3
  obtain ⟨px, pc, rfl, _, _⟩ := hp.shape
  obtain ⟨cx, cc, rfl, _, _⟩ := hc.shape
  exact ⟨px, cx, pc, cc, h1, hp, hc⟩
theorem devR_zero (w : World) : DevR w (.agg #[.slice none 0 0, .slice none 0 0, .int .i64 0, .bool false]) dev0 := (devO_zero 0 w).read
end Go.Proofs.Ytgfmpkcgkjpgnaa
end
