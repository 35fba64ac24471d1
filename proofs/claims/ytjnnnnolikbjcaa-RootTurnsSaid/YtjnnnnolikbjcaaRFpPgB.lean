/-
  PAGES: the page of a block: the walk.
-/
import Derived.WalkMore
import Derived.Test.YtjnnnnolikbjcaaRFpPgA
import Derived.Test.YtjnnnnolikbjcaaRDv7
namespace Go.Proofs.Ytjnnnnolikbjcaa
open Go.ChangeShapes Go.WideShapes Go.ChangeAt Go.RowKit Agg Pg

theorem bv_getD (l : List UInt8) (i : Nat) (h : i < l.length) : (bv l)[i]? = some (.int .u8 ((l.getD i 0).toNat : Int)) := by
  rw [bv_get l i h, List.getD_eq_getElem?_getD, List.getElem?_eq_getElem h]; rfl
theorem tryD_len (all : List UInt8) (h : all.length = 128) : (tryD all).length = min (all.getD 1 0).toNat 120 := by
  unfold tryD
  rw [List.length_take, List.length_drop]; omega
set_option maxHeartbeats 8000000 in
set_option maxRecDepth 100000 in
theorem pgRead_any (b : List Sec) (hb : BOk b) (w : World) (k : Int) (d : List UInt8) (n : Nat) (er : Int) (hr : readR b = ((k, d), n, er)) :
    Calls Try.prog 71 #[.agg (blkC b).toArray] w fun e w' => ∃ u, e = .returned (.tuple #[.agg #[.int .i64 k, u], .int .u64 (n : Int), .int .i64 er]) ∧ w'.ownsRow w.heap.size 5 1 u d.length (bv d) ∧ Below w.heap.size w w' := by
  have HBO := Lib.hid hb
  have HRR := Lib.hid hr
  have h132 : (blkC b).length = 132 := by rw [blkC_length b hb.len, hb.1]
  clear hb hr
  have HB := Lib.hid (Below.refl w.heap.size w)
  go_enter Try.func71, Try.ntmps71
  have hg0 := (Blk.new w 38 (blkC b).toArray).al (.cells #[.int .i64 0, .slice none 0 0] 92)
  go_wp2_with fail
  refine wp_scope_straight ?_
  go_wp2_with (refine Agg.gLoadB 132 hg0 h132 rfl rfl rfl (by decide +kernel) ?_; simp only [Act.put, List.setIfInBounds_toArray, List.set_cons_succ, List.set_cons_zero])
  clear hg0
  refine Agg.calls_at fun w1 hw1 => ?_
  have hb : Below w.heap.size w w1 := by rw [hw1.out]; repeat (first | exact Below.refl _ _ | refine Agg.bel_drew ?_ | refine Agg.bel_alloc ?_ _)
  replace HB := Lib.hid (HB.out.trans (hb.mono HB.out.size))
  clear hb
  have H1 : Hid (Blk w1 w.heap.size 38 (blkC b)) := by show Blk _ _ _ _; rw [hw1.out]; exact (Blk.new w 38 (blkC b).toArray).al _
  have H2 : Hid (Blk w1 (w.heap.size + 1) 92 [.int .i64 0, .slice none 0 0]) := by show Blk _ _ _ _; rw [hw1.out]; exact Blk.newAt (w.alloc _) 92 #[.int .i64 0, .slice none 0 0] _ (by simp)
  clear hw1
  obtain ⟨q, hq⟩ : ∃ q, stampB b = q := ⟨_, rfl⟩
  cases q
  · have hrr : readR b = ((0, []), 0, 270) := by rw [readR, if_neg (by rw [hq]; decide)]
    refine (stamp_any b HBO.out w1 false hq).mono ?_
    rintro e w2 ⟨rfl, hb⟩
    replace HB := Lib.hid (HB.out.trans (hb.mono HB.out.size))
    replace H1 := Lib.hid (H1.out.keep hb)
    replace H2 := Lib.hid (H2.out.keep hb)
    clear hb
    rw [show ((if false = true then st0 b else 0 : Nat) : Int) = 0 from rfl]
    have h1 := H1.out
    go_wp2_with (refine Agg.gLoadB 132 h1 h132 rfl rfl rfl (by decide +kernel) ?_; simp only [Act.put, List.setIfInBounds_toArray, List.set_cons_succ, List.set_cons_zero])
    clear h1
    refine (whole_any b HBO.out.1 HBO.out.len w2).mono ?_
    rintro e w3 ⟨va, rfl, hova, hb⟩
    replace HB := Lib.hid (HB.out.trans (hb.mono HB.out.size))
    replace H1 := Lib.hid (H1.out.keep hb)
    replace H2 := Lib.hid (H2.out.keep hb)
    clear hb
    obtain ⟨xa, ca, rfl, hv1, hv2⟩ := (ownSl hova).shape
    have HO := Lib.hid hova
    clear hova
    rw [HRR.out] at hrr
    simp only [Prod.mk.injEq] at hrr
    obtain ⟨⟨rfl, rfl⟩, rfl, rfl⟩ := hrr
    clear hq
    go_wp2_with fail
    refine wp_label ?_
    go_wp2_with fail
    go_loopw [8] (fun v wr => v = .int .i64 270 ∧ From w3 wr) (fun _ _ => 0)
    case atStart => exact ⟨rfl, Below.refl _ _⟩
    case round =>
      obtain ⟨rfl, hb⟩ := hrel
      have hb := hb
      replace HB := Lib.hid (HB.out.trans (hb.mono HB.out.size))
      replace H1 := Lib.hid (H1.out.keep hb)
      replace H2 := Lib.hid (H2.out.keep hb)
      replace HO := Lib.hid (HO.out.keep hb)
      clear hb
      have hr2 := H2.out.cell 0
      have hr3 := H2.out.cell 1
      have hf2 := H2.out.frozen 0
      have hf3 := H2.out.frozen 1
      have hl2 := H2.out.lt
      simp only [List.getElem?_cons_zero, List.getElem?_cons_succ] at hr2 hr3
      go_wp2_with fail
      try rw [Exit.noGoto_ret]
      refine bodyPost_ret (results_row3 rfl (H2.out.set2 (.int .i64 0) (.slice none 0 0)) rfl (by decide +kernel) rfl) rfl ⟨_, rfl, World.ownsRow_nil _ _ _ _, ?_⟩
      exact (HB.out.setCell (by simp) _).setCell (by simp) _
  · have hstp := stampB_all hq
    refine (stamp_any b HBO.out w1 true hq).mono ?_
    rintro e w4 ⟨rfl, hb⟩
    replace HB := Lib.hid (HB.out.trans (hb.mono HB.out.size))
    replace H1 := Lib.hid (H1.out.keep hb)
    replace H2 := Lib.hid (H2.out.keep hb)
    clear hb
    rw [show ((if true = true then st0 b else 0 : Nat) : Int) = (st0 b : Int) from rfl]
    have h1 := H1.out
    go_wp2_with (refine Agg.gLoadB 132 h1 h132 rfl rfl rfl (by decide +kernel) ?_; simp only [Act.put, List.setIfInBounds_toArray, List.set_cons_succ, List.set_cons_zero])
    clear h1
    refine (whole_any b HBO.out.1 HBO.out.len w4).mono ?_
    rintro e w5 ⟨va, rfl, hova, hb⟩
    replace HB := Lib.hid (HB.out.trans (hb.mono HB.out.size))
    replace H1 := Lib.hid (H1.out.keep hb)
    replace H2 := Lib.hid (H2.out.keep hb)
    clear hb
    obtain ⟨xa, ca, rfl, hv1, hv2⟩ := (ownSl hova).shape
    have HO := Lib.hid hova
    clear hova
    go_wp2_with fail
    refine wp_label ?_
    go_wp2_with fail
    go_loopw [8] (fun v wr => v = .int .i64 270 ∧ From w5 wr) (fun _ _ => 0)
    case atStart => exact ⟨rfl, Below.refl _ _⟩
    case round =>
      obtain ⟨rfl, hb⟩ := hrel
      have hb := hb
      replace HB := Lib.hid (HB.out.trans (hb.mono HB.out.size))
      replace H1 := Lib.hid (H1.out.keep hb)
      replace H2 := Lib.hid (H2.out.keep hb)
      replace HO := Lib.hid (HO.out.keep hb)
      clear hb
      have hby : Bytes wr (.slice xa 128 ca) (bytesB b) := by
        have := ownSl HO.out
        show SlR _ _ _ _ _
        rw [bytesB_length b HBO.out.len, HBO.out.1]; exact this
      have hlen : (bytesB b).length = 128 := by rw [bytesB_length b HBO.out.len, HBO.out.1]
      have HBY := Lib.hid hby
      have HLEN := Lib.hid hlen
      clear hby hlen
      go_wp2_with fail
      by_cases hsum : Crc.sum (bytesB b) = 0#32
      · have hsum2 := hsum
        refine (holds_any (bytesB b) _ wr HBY.out true (by rw [HLEN.out, hsum]; rfl)).mono ?_
        rintro e w6 ⟨rfl, hb⟩
        replace HB := Lib.hid (HB.out.trans (hb.mono HB.out.size))
        replace H1 := Lib.hid (H1.out.keep hb)
        replace H2 := Lib.hid (H2.out.keep hb)
        replace HO := Lib.hid (HO.out.keep hb)
        replace HBY := Lib.hid (HBY.out.keep hb)
        clear hb
        obtain ⟨g, o, cap', hve, hq3, hq4, hcs, hgl⟩ := SlR.pos HBY.out (by decide) (by rw [HLEN.out]; decide)
        simp only [Value.slice.injEq] at hve
        obtain ⟨e1, e2, e3⟩ := hve
        subst e1; subst e3; clear e2
        have hn0 := hcs 0 _ (bv_getD (bytesB b) 0 (by rw [HLEN.out]; decide))
        have hn1 := hcs 1 _ (bv_getD (bytesB b) 1 (by rw [HLEN.out]; decide))
        have hit := form_iff b HBO.out hq hsum
        have htl := tryD_len (bytesB b) HLEN.out
        have htc : ∀ i v, (bv (tryD (bytesB b)))[i]? = some v → w6.cell? ⟨g, o + 4 + i, none⟩ = some v := by
          intro i v hv
          have h1 := (List.getElem?_eq_some_iff.1 hv).1
          rw [bv_length] at h1
          rw [show o + 4 + i = o + (4 + i) by omega]
          refine hcs (4 + i) v ?_
          rw [← hv]
          unfold tryD
          rw [bv_take, bv_drop, List.getElem?_take_of_lt (by omega), List.getElem?_drop]
        have hokT : formP (bytesB b) → readR b = (((((bytesB b).getD 0 0).toNat : Int), ((bytesB b).drop 4).take ((bytesB b).getD 1 0).toNat), st0 b, 0) := fun h => by
          rw [readR, if_pos hq, if_pos hsum, if_pos h]
        have hokF : ¬ formP (bytesB b) → readR b = ((0, []), 0, 7) := fun h => by
          rw [readR, if_pos hq, if_pos hsum, if_neg h]
        have HTL := Lib.hid htl
        have htd : ((bytesB b).getD 1 0).toNat ≤ 120 → ((bytesB b).drop 4).take ((bytesB b).getD 1 0).toNat = tryD (bytesB b) := by
          intro h
          unfold tryD
          rw [Nat.min_eq_left h]
        have HTD := Lib.hid htd
        have HIT := Lib.hid hit
        have HOKT := Lib.hid hokT
        have HOKF := Lib.hid hokF
        clear hcs hq3 hsum hsum2 hit hokT hokF htd htl
        have h255 : ((bytesB b).getD 1 0).toNat < 256 := UInt8.toNat_lt _
        have h255' : ((bytesB b).getD 0 0).toNat < 256 := UInt8.toNat_lt _
        generalize ((bytesB b).getD 1 0).toNat = n1 at *
        generalize ((bytesB b).getD 0 0).toNat = k0 at *
        generalize tryD (bytesB b) = dt at *
        have hx1 : w6.cell? ⟨g, o + 0 + (1 : Int).toNat * 1, none⟩ = some (.int .u8 (n1 : Int)) := hn1
        go_upto_region 7 with (fail)
        clear hn1 hx1
        have hn0' : w6.cell? ⟨g, o + (0 : Int).toNat * 1, none⟩ = some (.int .u8 (k0 : Int)) := hn0
        refine Agg.heldBegin (S := fun z => z.cell? ⟨g, o + (0 : Int).toNat * 1, none⟩ = some (.int .u8 (k0 : Int))) 12 (by kernel_rfl) rfl ?_
        have hb0 : Below w6.heap.size w6 w6.drew := bel_drew (Below.refl _ _)
        have hc0 := cell_keep hb0 hn0'
        have htc0 : ∀ i v, (bv dt)[i]? = some v → w6.drew.cell? ⟨g, o + 4 + i, none⟩ = some v := fun i v hv => cell_keep hb0 (htc i v hv)
        generalize w6.drew = z0 at hb0 hc0 htc0 ⊢
        clear hn0 hn0' htc
        have hb := hb0
        replace HB := Lib.hid (HB.out.trans (hb.mono HB.out.size))
        replace H1 := Lib.hid (H1.out.keep hb)
        replace H2 := Lib.hid (H2.out.keep hb)
        replace HO := Lib.hid (HO.out.keep hb)
        replace HBY := Lib.hid (HBY.out.keep hb)
        clear hb
        clear hb0
        refine Agg.heldTake (i := 0) (by decide +kernel) rfl rfl rfl (v := .slice (some ⟨g, o, none⟩) 128 ca) (fun z _ => Agg.run_move rfl rfl) hc0 ?_
        refine Agg.heldTake (i := 1) (by decide +kernel) rfl rfl rfl (v := .pointer (some ⟨g, o + (0 : Int).toNat * 1, none⟩)) (fun z _ => by exact Agg.run_ia ti25 (i := 0) (by decide) (by decide) rfl rfl rfl) hc0 ?_
        refine Agg.heldTake (i := 2) (by decide +kernel) rfl rfl rfl (v := .int .u8 (k0 : Int)) (fun z hz => by exact Agg.run_ld (t := 5) (by decide +kernel) rfl rfl hz) hc0 ?_
        refine Agg.heldTake (i := 3) (by decide +kernel) rfl rfl rfl (v := .int .i64 (k0 : Int)) (fun z _ => by exact Agg.run_int (k := .u8) (m := (k0 : Int)) _ (by rw [IntKind.wrap_i64]; omega) Try.underlying5 Try.underlying3 rfl rfl) hc0 ?_
        refine Agg.heldTake (i := 4) (by decide +kernel) rfl rfl rfl (v := .slice (some ⟨g, o, none⟩) 128 ca) (fun z _ => Agg.run_move rfl rfl) hc0 ?_
        refine Agg.heldTake (i := 5) (by decide +kernel) rfl rfl rfl (v := .int .i64 (n1 : Int)) (fun z _ => Agg.run_move rfl rfl) hc0 ?_
        refine Agg.heldTake (i := 6) (by decide +kernel) rfl rfl rfl (v := .int .i64 (dt.length : Int)) (fun z _ => by exact Agg.run_mn (m := (n1 : Int)) (q := 120) _ (by have := HTL.out; omega) rfl rfl rfl) hc0 ?_
        refine Agg.heldTake (i := 7) (by decide +kernel) rfl rfl rfl (v := .int .i64 ((4 + dt.length : Nat) : Int)) (fun z _ => by exact Agg.run_add (m := 4) (q := (dt.length : Int)) (by omega) (by omega) (by have := HTL.out; omega) rfl rfl rfl) hc0 ?_
        refine Agg.heldTake (i := 8) (by decide +kernel) rfl rfl rfl (v := .slice (some ⟨g, o + 4, none⟩) dt.length 124) (fun z _ => (by
          have h := run_slice_3 (P := Try.prog) ti25 g o 128 ca 4 (4 + dt.length) 128 (by omega) (by have := HTL.out; omega) hv1 (by decide) z
          rw [show 4 + dt.length - 4 = dt.length by omega] at h
          exact Agg.run_sl3 h rfl rfl rfl rfl rfl)) hc0 ?_
        refine Agg.heldTake (i := 9) (by decide +kernel) rfl rfl rfl (v := .agg #[.int .i64 (k0 : Int), .slice (some ⟨g, o + 4, none⟩) dt.length 124]) (fun z _ => by exact Agg.run_bld (ps := [(0, .tmp 31), (1, .tmp 36)]) rfl (by kernel_rfl)) hc0 ?_
        refine Agg.heldOne (i := 10) (by decide +kernel) rfl rfl rfl (Agg.run_alc (t := 92) #[.int .i64 0, .slice none 0 0] rfl (by kernel_rfl)) (cell_keep ((Below.refl _ _).alloc (Nat.le_refl _) _) hc0) ?_
        have hb1 : Below z0.heap.size z0 (z0.alloc (.cells #[.int .i64 0, .slice none 0 0] 92)) := bel_alloc (Below.refl _ _) _
        have hp1 := Blk.new z0 92 #[.int .i64 0, .slice none 0 0]
        have hgz : g < z0.heap.size := block_lt_of_cell hc0
        have hwz := HB.out.size
        have h2z := H2.out.lt
        refine Agg.heldSt (.agg #[.int .i64 (k0 : Int), .slice (some ⟨g, o + 4, none⟩) dt.length 124]) [.int .i64 (k0 : Int), .slice (some ⟨g, o + 4, none⟩) dt.length 124] hp1 rfl (by kernel_rfl) (by simp) (by simp [Value.oneCell']) (i := 11) (by decide +kernel) rfl rfl rfl rfl rfl rfl (fun z1 hq1 hg1 => ⟨hg1.cell (cell_keep hb1 hc0) (by simp; omega), ?_⟩)
        have htc1 : ∀ i v, (bv dt)[i]? = some v → z1.cell? ⟨g, o + 4 + i, none⟩ = some v := fun i v hv => hg1.cell (cell_keep hb1 (htc0 i v hv)) (by simp; omega)
        refine Agg.heldDone (by decide +kernel) ?_
        have HPG : Hid (Blk z1 z0.heap.size 92 [.int .i64 (k0 : Int), .slice (some ⟨g, o + 4, none⟩) dt.length 124]) := Lib.hid hq1
        replace HB := Lib.hid ((HB.out.trans (hb1.mono hwz)).trans (grown_below hg1 (by simp only [World.size_alloc]; omega) (fun j hj => (by cases hj; exact hwz))))
        replace H1 := Lib.hid ((H1.out.keep hb1).grown hg1 (by omega))
        replace H2 := Lib.hid ((H2.out.keep hb1).grown hg1 (by omega))
        have HDT : Hid (Bytes z1 (.slice (some ⟨g, o + 4, none⟩) dt.length 124) dt) := by
          refine Lib.hid ⟨by simp [bv_length], .inr ⟨_, 124, rfl, by have := HTL.out; omega, by decide, fun i v hv => ?_⟩⟩
          rw [add_none]; exact htc1 i v hv
        clear hq1 hg1 hb1 hc0 htc0 htc1 hp1 HO HBY
        generalize z0.heap.size = pp at *
        simp only [List.set_cons_succ, List.set_cons_zero]
        have xHPG_0 := HPG.out.cell 0
        have xHPG_1 := HPG.out.cell 1
        have lHPG := HPG.out.lt
        simp only [List.getElem?_cons_zero, List.getElem?_cons_succ] at xHPG_0 xHPG_1
        go_wp2_with fail
        obtain ⟨⟨rL, eL⟩, hlay⟩ : ∃ r, layR (k0 : Int) dt (st0 b) = r := ⟨_, rfl⟩
        have hrb := layR_bok (k0 : Int) dt (st0 b)
        rw [hlay] at hrb
        have hiff := HIT.out
        rw [hlay] at hiff
        simp only at hiff hrb
        have HIF := Lib.hid hiff
        have HRB := Lib.hid hrb
        clear hiff hrb
        clear xHPG_0 xHPG_1 lHPG
        refine (layP_any (k0 : Int) dt (st0 b) _ z1 HDT.out rL eL hlay).mono ?_
        rintro e w201 ⟨rfl, hb⟩
        replace HB := Lib.hid (HB.out.trans (hb.mono HB.out.size))
        replace H1 := Lib.hid (H1.out.keep hb)
        replace H2 := Lib.hid (H2.out.keep hb)
        replace HPG := Lib.hid (HPG.out.keep hb)
        replace HDT := Lib.hid (HDT.out.keep hb)
        clear hb
        have hrl : (blkC rL).length = 132 := by rw [blkC_length rL HRB.out.len, HRB.out.1]
        have hr1 := blkC_one rL
        go_upto_region 10 with (first
          | (refine Agg.allocRow 38 (blkC zeroB).toArray rfl rfl (by kernel_rfl) ?_; simp only [Act.put, List.setIfInBounds_toArray, List.set_cons_succ, List.set_cons_zero])
          | (refine Agg.gStoreNew 132 (blkC rL) rfl rfl rfl rfl rfl rfl (by decide +kernel) hrl (by simp [zero132]) hr1 ?_; simp only [Act.put]))
        refine Agg.wp_at fun w202 hw202 => ?_
        have hb : Below w201.heap.size w201 w202 := by rw [hw202.out]; repeat (first | exact Below.refl _ _ | refine Agg.bel_drew ?_ | refine Agg.bel_alloc ?_ _)
        replace HB := Lib.hid (HB.out.trans (hb.mono HB.out.size))
        replace H1 := Lib.hid (H1.out.keep hb)
        replace H2 := Lib.hid (H2.out.keep hb)
        replace HPG := Lib.hid (HPG.out.keep hb)
        replace HDT := Lib.hid (HDT.out.keep hb)
        clear hb
        have HLB : Hid (Blk w202 w201.heap.size 38 (blkC rL)) := by show Blk _ _ _ _; rw [hw202.out]; exact Blk.newAt w201 38 (blkC rL).toArray _ rfl
        clear hw202 hr1
        have he02 : eL = 0 ∨ eL = 2 := by
          unfold layR at hlay
          split at hlay <;> cases hlay
          · exact .inl rfl
          · exact .inr rfl
        by_cases hn1 : n1 ≤ 120
        · by_cases heL : eL = 0
          · subst heL
            by_cases hrL : rL = b
            · have hf := HIF.out.2 ⟨hn1, rfl, hrL⟩
              have hrr := HOKT.out hf
              rw [HTD.out hn1, HRR.out] at hrr
              simp only [Prod.mk.injEq] at hrr
              obtain ⟨⟨rfl, rfl⟩, rfl, rfl⟩ := hrr
              subst hrL
              refine Agg.listR 11 (by kernel_rfl) ?_
              simp only [List.take_succ_cons, List.take_zero, List.drop_succ_cons, List.drop_zero]
              refine Agg.chMove rfl rfl rfl rfl ?_
              refine Agg.chGt false (by simp; omega) rfl rfl rfl rfl rfl ?_
              refine Agg.chMove rfl rfl rfl rfl ?_
              refine Agg.chMove rfl rfl rfl rfl ?_
              refine Agg.chNe false rfl rfl rfl rfl rfl rfl ?_
              refine Agg.chPick rfl rfl rfl rfl rfl ?_
              refine Agg.chMove rfl rfl rfl rfl ?_
              refine Agg.chRowB 132 HLB hrl (by decide +kernel) rfl rfl rfl rfl ?_
              refine Agg.chRowB 132 H1 hrl (by decide +kernel) rfl rfl rfl rfl ?_
              refine Agg.chBin (v := .bool false) rfl rfl rfl rfl rfl (fun w => flatBlk.gd .neq _ _ _ _ w) (fun w => blk_neq rL rL HRB.out HRB.out true (by simp) w) ?_
              refine Agg.chPick rfl rfl rfl rfl rfl ?_
              refine Agg.chEnd ?_
              intro vs w203 hb _
              show Exit.then _ _ Exit.normal _ _
              simp only [List.reverse, List.reverseAux, Agg.fill, List.set_cons_succ, List.set_cons_zero]
              replace HB := Lib.hid (HB.out.trans (hb.mono HB.out.size))
              replace H1 := Lib.hid (H1.out.keep hb)
              replace H2 := Lib.hid (H2.out.keep hb)
              replace HPG := Lib.hid (HPG.out.keep hb)
              replace HDT := Lib.hid (HDT.out.keep hb)
              replace HLB := Lib.hid (HLB.out.keep hb)
              clear hb
              clear hrl
              go_upto_region 11 with (fail)
              have hpp := HPG.out.lt
              have h2p := H2.out.lt
              refine Agg.heldBegin (S := fun z => Blk z pp 92 [.int .i64 (k0 : Int), .slice (some ⟨g, o + 4, none⟩) d.length 124]) 10 (by kernel_rfl) rfl ?_
              have hb0 : Below w203.heap.size w203 w203.drew := bel_drew (Below.refl _ _)
              generalize w203.drew = z3 at hb0 ⊢
              have hb := hb0
              replace HB := Lib.hid (HB.out.trans (hb.mono HB.out.size))
              replace H1 := Lib.hid (H1.out.keep hb)
              replace H2 := Lib.hid (H2.out.keep hb)
              replace HPG := Lib.hid (HPG.out.keep hb)
              replace HDT := Lib.hid (HDT.out.keep hb)
              replace HLB := Lib.hid (HLB.out.keep hb)
              clear hb
              clear hb0
              refine Agg.heldTake (i := 0) (by decide +kernel) rfl rfl rfl (fun z _ => Agg.run_fa fo_Page_0 rfl (b := pp) (f := 0) rfl) HPG.out ?_
              refine Agg.heldTake (i := 1) (by decide +kernel) rfl rfl rfl (v := .int .i64 (k0 : Int)) (fun z hz => by exact Agg.run_ld (t := 3) (by decide +kernel) rfl rfl (hz.cell 0)) HPG.out ?_
              refine Agg.heldTake (i := 2) (by decide +kernel) rfl rfl rfl (fun z _ => Agg.run_fa fo_Page_1 rfl (b := pp) (f := 0) rfl) HPG.out ?_
              refine Agg.heldTake (i := 3) (by decide +kernel) rfl rfl rfl (v := .slice (some ⟨g, o + 4, none⟩) d.length 124) (fun z hz => by exact Agg.run_ld (t := 57) (by decide +kernel) rfl rfl (hz.cell 1)) HPG.out ?_
              refine Agg.heldTake (i := 6) (by decide +kernel) rfl rfl rfl (v := .int .u64 (st0 rL : Int)) (fun z _ => Agg.run_move rfl rfl) HPG.out ?_
              refine Agg.heldCall Try.func86 rfl rfl (i := 4) (args := [.tmp 58]) (by decide +kernel) rfl rfl rfl rfl ((bClone_any d _ z3 HDT.out (by have := HTL.out; omega)).mono ?_)
              rintro e z4 ⟨u, rfl, hou, hb⟩
              refine ⟨_, rfl, HPG.out.keep hb, ?_⟩
              obtain ⟨xu, cu, rfl, _, _⟩ := (ownSl hou).shape
              have hul := hou.lt
              replace hou := own_mono hou HB.out.size
              have h2z3 := H2.out.lt
              have hb := hb
              replace HB := Lib.hid (HB.out.trans (hb.mono HB.out.size))
              replace H1 := Lib.hid (H1.out.keep hb)
              replace H2 := Lib.hid (H2.out.keep hb)
              replace HPG := Lib.hid (HPG.out.keep hb)
              replace HDT := Lib.hid (HDT.out.keep hb)
              replace HLB := Lib.hid (HLB.out.keep hb)
              clear hb
              change Held _ _ _ _ _ _ (List.set _ _ (.slice xu d.length cu)) _ _
              refine Agg.heldTake (i := 5) (by decide +kernel) rfl rfl rfl (v := .agg #[.int .i64 (k0 : Int), .slice xu d.length cu]) (fun z _ => by exact Agg.run_bld (ps := [(0, .tmp 56), (1, .tmp 59)]) rfl (by kernel_rfl)) HPG.out ?_
              refine Agg.heldSt (.agg #[.int .i64 (k0 : Int), .slice xu d.length cu]) [.int .i64 (k0 : Int), .slice xu d.length cu] H2.out rfl (by kernel_rfl) (by simp) (by simp [Value.oneCell']) (i := 7) (by decide +kernel) rfl rfl rfl rfl rfl rfl (fun z5 hq5 hg5 => ⟨HPG.out.grown hg5 (by omega), ?_⟩)
              have HPG5 := HPG.out.grown hg5 (by omega)
              refine Agg.heldOne (i := 8) (by decide +kernel) rfl rfl rfl (v := .int .u64 (st0 rL : Int)) (Agg.run_assign rfl rfl) HPG5 ?_
              refine Agg.heldOne (i := 9) (by decide +kernel) rfl rfl rfl (v := .int .i64 0) (Agg.run_assign rfl rfl) HPG5 ?_
              refine Agg.heldDone (by decide +kernel) ?_
              simp only [List.set_cons_succ, List.set_cons_zero]
              go_wp2_with fail
              try rw [Exit.noGoto_ret]
              refine bodyPost_ret (results_row3 (m := 2) rfl hq5 rfl (by decide +kernel) rfl) rfl ⟨_, rfl, ?_, ?_⟩
              · refine hou.kept hg5 ?_
                cases hob : (Value.slice xu d.length cu).ownBlock with
                | none => exact .inl rfl
                | some j =>
                  have hjj := hul j hob
                  exact .inr (fun e => by cases e; omega)
              · exact HB.out.trans (grown_below hg5 HB.out.size (fun j hj => (by cases hj; omega)))
            · have hnf : ¬ formP (bytesB b) := fun h => hrL (HIF.out.1 h).2.2
              have hrr := HOKF.out hnf
              rw [HRR.out] at hrr
              simp only [Prod.mk.injEq] at hrr
              obtain ⟨⟨rfl, rfl⟩, rfl, rfl⟩ := hrr
              refine Agg.listR 11 (by kernel_rfl) ?_
              simp only [List.take_succ_cons, List.take_zero, List.drop_succ_cons, List.drop_zero]
              refine Agg.chMove rfl rfl rfl rfl ?_
              refine Agg.chGt false (by simp; omega) rfl rfl rfl rfl rfl ?_
              refine Agg.chMove rfl rfl rfl rfl ?_
              refine Agg.chMove rfl rfl rfl rfl ?_
              refine Agg.chNe false rfl rfl rfl rfl rfl rfl ?_
              refine Agg.chPick rfl rfl rfl rfl rfl ?_
              refine Agg.chMove rfl rfl rfl rfl ?_
              refine Agg.chRowB 132 HLB hrl (by decide +kernel) rfl rfl rfl rfl ?_
              refine Agg.chRowB 132 H1 h132 (by decide +kernel) rfl rfl rfl rfl ?_
              refine Agg.chBin (v := .bool true) rfl rfl rfl rfl rfl (fun w => flatBlk.gd .neq _ _ _ _ w) (fun w => blk_neq rL b HRB.out HBO.out false (by simp [hrL]) w) ?_
              refine Agg.chPick rfl rfl rfl rfl rfl ?_
              refine Agg.chEnd ?_
              intro vs w204 hb _
              show Exit.then _ _ Exit.normal _ _
              simp only [List.reverse, List.reverseAux, Agg.fill, List.set_cons_succ, List.set_cons_zero]
              replace HB := Lib.hid (HB.out.trans (hb.mono HB.out.size))
              replace H1 := Lib.hid (H1.out.keep hb)
              replace H2 := Lib.hid (H2.out.keep hb)
              replace HPG := Lib.hid (HPG.out.keep hb)
              replace HDT := Lib.hid (HDT.out.keep hb)
              replace HLB := Lib.hid (HLB.out.keep hb)
              clear hb
              clear hnf hrl
              have hr2 := H2.out.cell 0
              have hr3 := H2.out.cell 1
              have hf2 := H2.out.frozen 0
              have hf3 := H2.out.frozen 1
              have hl2 := H2.out.lt
              simp only [List.getElem?_cons_zero, List.getElem?_cons_succ] at hr2 hr3
              go_wp2_with fail
              try rw [Exit.noGoto_ret]
              refine bodyPost_ret (results_row3 rfl (H2.out.set2 (.int .i64 0) (.slice none 0 0)) rfl (by decide +kernel) rfl) rfl ⟨_, rfl, World.ownsRow_nil _ _ _ _, ?_⟩
              exact (HB.out.setCell (by simp) _).setCell (by simp) _
          · have hnf : ¬ formP (bytesB b) := fun h => heL (HIF.out.1 h).2.1
            obtain rfl : eL = 2 := he02.resolve_left heL
            have hrr := HOKF.out hnf
            rw [HRR.out] at hrr
            simp only [Prod.mk.injEq] at hrr
            obtain ⟨⟨rfl, rfl⟩, rfl, rfl⟩ := hrr
            refine Agg.listR 11 (by kernel_rfl) ?_
            simp only [List.take_succ_cons, List.take_zero, List.drop_succ_cons, List.drop_zero]
            refine Agg.chMove rfl rfl rfl rfl ?_
            refine Agg.chGt false (by simp; omega) rfl rfl rfl rfl rfl ?_
            refine Agg.chMove rfl rfl rfl rfl ?_
            refine Agg.chMove rfl rfl rfl rfl ?_
            refine Agg.chNe true rfl rfl rfl rfl rfl rfl ?_
            refine Agg.chPick rfl rfl rfl rfl rfl ?_
            refine Agg.chMove rfl rfl rfl rfl ?_
            refine Agg.chSkip rfl rfl ?_
            refine Agg.chSkip rfl rfl ?_
            refine Agg.chSkip rfl rfl ?_
            refine Agg.chPick rfl rfl rfl rfl rfl ?_
            refine Agg.chEnd ?_
            intro vs w205 hb _
            show Exit.then _ _ Exit.normal _ _
            simp only [List.reverse, List.reverseAux, Agg.fill, List.set_cons_succ, List.set_cons_zero]
            replace HB := Lib.hid (HB.out.trans (hb.mono HB.out.size))
            replace H1 := Lib.hid (H1.out.keep hb)
            replace H2 := Lib.hid (H2.out.keep hb)
            replace HPG := Lib.hid (HPG.out.keep hb)
            replace HDT := Lib.hid (HDT.out.keep hb)
            replace HLB := Lib.hid (HLB.out.keep hb)
            clear hb
            clear hnf hrl
            have hr2 := H2.out.cell 0
            have hr3 := H2.out.cell 1
            have hf2 := H2.out.frozen 0
            have hf3 := H2.out.frozen 1
            have hl2 := H2.out.lt
            simp only [List.getElem?_cons_zero, List.getElem?_cons_succ] at hr2 hr3
            go_wp2_with fail
            try rw [Exit.noGoto_ret]
            refine bodyPost_ret (results_row3 rfl (H2.out.set2 (.int .i64 0) (.slice none 0 0)) rfl (by decide +kernel) rfl) rfl ⟨_, rfl, World.ownsRow_nil _ _ _ _, ?_⟩
            exact (HB.out.setCell (by simp) _).setCell (by simp) _
        · have hnf : ¬ formP (bytesB b) := fun h => hn1 (HIF.out.1 h).1
          have hrr := HOKF.out hnf
          rw [HRR.out] at hrr
          simp only [Prod.mk.injEq] at hrr
          obtain ⟨⟨rfl, rfl⟩, rfl, rfl⟩ := hrr
          refine Agg.listR 11 (by kernel_rfl) ?_
          simp only [List.take_succ_cons, List.take_zero, List.drop_succ_cons, List.drop_zero]
          refine Agg.chMove rfl rfl rfl rfl ?_
          refine Agg.chGt true (by simp; omega) rfl rfl rfl rfl rfl ?_
          refine Agg.chMove rfl rfl rfl rfl ?_
          refine Agg.chSkip rfl rfl ?_
          refine Agg.chSkip rfl rfl ?_
          refine Agg.chPick rfl rfl rfl rfl rfl ?_
          refine Agg.chMove rfl rfl rfl rfl ?_
          refine Agg.chSkip rfl rfl ?_
          refine Agg.chSkip rfl rfl ?_
          refine Agg.chSkip rfl rfl ?_
          refine Agg.chPick rfl rfl rfl rfl rfl ?_
          refine Agg.chEnd ?_
          intro vs w206 hb _
          show Exit.then _ _ Exit.normal _ _
          simp only [List.reverse, List.reverseAux, Agg.fill, List.set_cons_succ, List.set_cons_zero]
          replace HB := Lib.hid (HB.out.trans (hb.mono HB.out.size))
          replace H1 := Lib.hid (H1.out.keep hb)
          replace H2 := Lib.hid (H2.out.keep hb)
          replace HPG := Lib.hid (HPG.out.keep hb)
          replace HDT := Lib.hid (HDT.out.keep hb)
          replace HLB := Lib.hid (HLB.out.keep hb)
          clear hb
          clear hnf hrl
          have hr2 := H2.out.cell 0
          have hr3 := H2.out.cell 1
          have hf2 := H2.out.frozen 0
          have hf3 := H2.out.frozen 1
          have hl2 := H2.out.lt
          simp only [List.getElem?_cons_zero, List.getElem?_cons_succ] at hr2 hr3
          go_wp2_with fail
          try rw [Exit.noGoto_ret]
          refine bodyPost_ret (results_row3 rfl (H2.out.set2 (.int .i64 0) (.slice none 0 0)) rfl (by decide +kernel) rfl) rfl ⟨_, rfl, World.ownsRow_nil _ _ _ _, ?_⟩
          exact (HB.out.setCell (by simp) _).setCell (by simp) _
      · have hrr : readR b = ((0, []), 0, 271) := by rw [readR, if_pos hq, if_neg hsum]
        rw [HRR.out] at hrr
        simp only [Prod.mk.injEq] at hrr
        obtain ⟨⟨rfl, rfl⟩, rfl, rfl⟩ := hrr
        refine (holds_any (bytesB b) _ wr HBY.out false (by rw [HLEN.out]; simpa using hsum)).mono ?_
        rintro e w207 ⟨rfl, hb⟩
        replace HB := Lib.hid (HB.out.trans (hb.mono HB.out.size))
        replace H1 := Lib.hid (H1.out.keep hb)
        replace H2 := Lib.hid (H2.out.keep hb)
        replace HO := Lib.hid (HO.out.keep hb)
        replace HBY := Lib.hid (HBY.out.keep hb)
        clear hb
        have hr2 := H2.out.cell 0
        have hr3 := H2.out.cell 1
        have hf2 := H2.out.frozen 0
        have hf3 := H2.out.frozen 1
        have hl2 := H2.out.lt
        simp only [List.getElem?_cons_zero, List.getElem?_cons_succ] at hr2 hr3
        clear hsum
        go_wp2_with fail
        try rw [Exit.noGoto_ret]
        refine bodyPost_ret (results_row3 rfl (H2.out.set2 (.int .i64 0) (.slice none 0 0)) rfl (by decide +kernel) rfl) rfl ⟨_, rfl, World.ownsRow_nil _ _ _ _, ?_⟩
        exact (HB.out.setCell (by simp) _).setCell (by simp) _
end Go.Proofs.Ytjnnnnolikbjcaa
