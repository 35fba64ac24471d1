/-
  ROOTS: the document's Data.
-/
import Derived.Test.YtjnnnnolikbjcaaRtN2
namespace Go.Proofs.Ytjnnnnolikbjcaa
open Go.ChangeShapes Go.WideShapes Go.ChangeAt Go.RowKit Agg Pg Dv
attribute [local go_sem] Oper.semAt_some

theorem u8_small {z : Int} (h0 : 0 ≤ z) (h : z < 256) : IntKind.u8.wrap z = z := by simp [IntKind.wrap, IntKind.bits, IntKind.signed]; omega
theorem bv_be2 (x : Int) : bv (beB 2 x) = [.int .u8 (x / 256 % 256), .int .u8 (x % 256)] := by
  rw [be2]
  show [Value.int .u8 ((UInt8.ofNat (x / 256 % 256).toNat).toNat : Int), .int .u8 ((UInt8.ofNat (x % 256).toNat).toNat : Int)] = _
  rw [of8, of8]
theorem bv_be4 (x : Int) : bv (beB 4 x) = [.int .u8 (x / 16777216 % 256), .int .u8 (x / 65536 % 256), .int .u8 (x / 256 % 256), .int .u8 (x % 256)] := by
  rw [be4]
  show [Value.int .u8 ((UInt8.ofNat (x / 16777216 % 256).toNat).toNat : Int), .int .u8 ((UInt8.ofNat (x / 65536 % 256).toNat).toNat : Int), .int .u8 ((UInt8.ofNat (x / 256 % 256).toNat).toNat : Int), .int .u8 ((UInt8.ofNat (x % 256).toNat).toNat : Int)] = _
  rw [of8, of8, of8, of8]

set_option maxHeartbeats 8000000 in
set_option maxRecDepth 100000 in
theorem dData_any (r : Rt) (v : Value) (w : World) (hv : RtR w v r) (hr : RightR r) :
    Calls Try.prog 28 #[v] w fun e w' => ∃ u, e = .returned u ∧ Bytes w' u (dataR r) ∧ Below w.heap.size w w' := by
  obtain ⟨sl, rfl, hs⟩ := hv.ex
  obtain ⟨x, c, rfl, hc1, hc2⟩ := ints_shape hs
  unfold maxLen at hc2
  have hn57 := hr.n57
  have hb1 := hr.b1
  have hb2 := hr.b2
  have hn1 := hr.n1
  have HPG := Lib.hid (fun z (h : z ∈ r.pages) => hr.page h)
  have HS := Lib.hid hs
  have HDL := Lib.hid (dataR_len r)
  have HDE : Hid (dataR r = (UInt8.ofNat r.pages.length :: r.pages.flatMap (beB 2)) ++ beB 4 r.bytes) := Lib.hid rfl
  obtain ⟨DD, hDD⟩ : ∃ D, dataR r = D := ⟨_, rfl⟩
  rw [hDD] at HDL HDE ⊢
  obtain ⟨s, st, L, by'⟩ := r
  unfold rtV
  dsimp only at hn57 hb1 hb2 hn1 HPG HS HDL HDE hc1 ⊢
  clear hs hr hv hDD
  obtain ⟨n, hn⟩ : ∃ n, L.length = n := ⟨_, rfl⟩
  have HN := Lib.hid hn
  rw [hn] at HS hn57 hb1 hb2 hn1 hc1 HDL HDE
  rw [hn]
  clear hn
  have HS0 := HS
  have HB := Lib.hid (Below.refl w.heap.size w)
  go_enter Try.func28, Try.ntmps28
  go_upto_region 1 with (fail)
  refine Agg.wp_at fun w1 hw1 => ?_
  have hb : Below w.heap.size w w1 := by rw [hw1.out]; repeat (first | exact Below.refl _ _ | refine Agg.bel_drew ?_ | refine Agg.bel_alloc ?_ _)
  replace HB := Lib.hid (HB.out.trans (hb.mono HB.out.size))
  replace HS := Lib.hid (HS.out.keep hb)
  clear hb
  have H1 : Hid (Blk w1 w.heap.size 26 [.int .i64 s, .int .u64 (st : Int), .slice x n c, .int .i64 by']) := by show Blk _ _ _ _; rw [hw1.out]; exact Blk.new w 26 #[.int .i64 s, .int .u64 (st : Int), .slice x n c, .int .i64 by']
  clear hw1
  have hsz := HB.out.size
  have hu8 := u8_small (z := (n : Int)) (by omega) (by omega)
  have c2 := H1.out.cell 2
  simp only [List.getElem?_cons_zero, List.getElem?_cons_succ] at c2
  go_upto_region 2 with (fail)
  clear c2 hu8
  refine Agg.wp_at fun w2 hw2 => ?_
  have hb : Below w1.heap.size w1 w2 := by rw [hw2.out]; repeat (first | exact Below.refl _ _ | refine Agg.bel_drew ?_ | refine Agg.bel_alloc ?_ _)
  replace HB := Lib.hid (HB.out.trans (hb.mono HB.out.size))
  replace H1 := Lib.hid (H1.out.keep hb)
  clear hb
  have HL : Hid (Blk w2 w1.heap.size 5 [.int .u8 (n : Int)]) := by show Blk _ _ _ _; rw [hw2.out]; exact Blk.new w1 5 #[.int .u8 (n : Int)]
  clear hw2
  have HOW : Hid (w2.ownsRow w.heap.size 5 1 (.slice (some ⟨w1.heap.size, 0, none⟩) 1 1) 1 (bv [UInt8.ofNat n])) := Lib.hid (by
    have e : bv [UInt8.ofNat n] = [.int .u8 (n : Int)] := by
      show [Value.int .u8 ((UInt8.ofNat n).toNat : Int)] = _
      rw [UInt8.toNat_ofNat', Nat.mod_eq_of_lt (by omega)]
    rw [e]
    exact blk_own (r := []) (by rw [List.append_nil]; exact HL.out) hsz (Nat.le_refl _) (by unfold maxLen; decide) rfl rfl)
  generalize w1.heap.size = gl at *
  go_wp2_with fail
  obtain ⟨wY, hwY⟩ : ∃ x, x = w2 := ⟨_, rfl⟩
  subst hwY
  have HBY := HB
  have H1Y := H1
  have HOWY := HOW
  clear HB H1 HOW HL HS
  go_loopw [4, 3] (fun ix s3 wr => ∃ (k : Nat) (x3 : Option Addr) (c3 : Nat), k ≤ n ∧ ix = .int .i64 k ∧ s3 = .slice x3 (1 + 2 * k) c3 ∧ wr.ownsRow w.heap.size 5 1 (.slice x3 (1 + 2 * k) c3) (1 + 2 * k) (bv (UInt8.ofNat n :: (L.take k).flatMap (beB 2))) ∧ Blk wr w.heap.size 26 [.int .i64 s, .int .u64 (st : Int), .slice x n c, .int .i64 by'] ∧ Below w.heap.size w wr) (fun ix _ _ => n - (intOf ix).toNat)
  case atStart => exact ⟨0, _, _, by omega, rfl, rfl, HOWY.out, H1Y.out, HBY.out⟩
  case round =>
    obtain ⟨k, x3, c3, hk, rfl, rfl, ho, h1, hb⟩ := hrel
    have HO := Lib.hid ho
    have H1 := Lib.hid h1
    have HB := Lib.hid hb
    have hsr := Lib.hid (SlR.keep HS0.out hb)
    have hszA := hb.size
    clear ho h1 hb
    obtain ⟨wA, hwA⟩ : ∃ x, x = wr := ⟨_, rfl⟩
    subst hwA
    have c2 := H1.out.cell 2
    simp only [List.getElem?_cons_zero, List.getElem?_cons_succ] at c2
    by_cases hlt : k < n
    · obtain ⟨b, o, cap', hve, hcap, _⟩ := SlR.pos hsr.out (by decide) (by rw [HN.out]; omega)
      injection hve with q1 q2 q3
      subst q1
      clear q2 q3 hcap
      have hkL : k < L.length := by rw [HN.out]; exact hlt
      have hcell := ints_at (l := L) hsr.out hkL
      have hpg := HPG.out _ (List.getElem_mem hkL)
      have hst := List.take_succ_eq_append_getElem hkL
      obtain ⟨z, hz⟩ : ∃ y, L[k] = y := ⟨_, rfl⟩
      rw [hz] at hcell hpg hst
      have HCL := Lib.hid hcell
      have HST : Hid (UInt8.ofNat n :: (L.take (k + 1)).flatMap (beB 2) = (UInt8.ofNat n :: (L.take k).flatMap (beB 2)) ++ beB 2 z) := Lib.hid (by rw [hst, List.flatMap_append]; simp)
      have hq1 : IntKind.i64.wrap (z.tdiv 256) = z / 256 := by rw [IntKind.wrap_i64, Int.tdiv_eq_ediv_of_nonneg (by omega)]; omega
      have hq2 : z.tmod 256 = z % 256 := Int.tmod_eq_emod_of_nonneg (by omega)
      have hu1 : IntKind.u8.wrap (z / 256) = z / 256 % 256 := by simp [IntKind.wrap, IntKind.bits, IntKind.signed]
      have hu2 : IntKind.u8.wrap (z % 256) = z % 256 := u8_small (by omega) (by omega)
      have HQ := Lib.hid (And.intro hq1 (And.intro hq2 (And.intro hu1 hu2)))
      have hbz := bv_be2 z
      have HBZ := Lib.hid hbz
      clear hz hcell hst hq1 hq2 hu1 hu2 hbz
      go_upto_region 5 with (fail)
      clear c2
      have hszB := HB.out.size
      refine Agg.chainR 16 (by kernel_rfl) (by kernel_rfl) ?_
      simp only [List.take_succ_cons, List.take_zero, List.drop_succ_cons, List.drop_zero]
      refine Agg.chMove rfl rfl rfl rfl ?_
      refine Agg.chFA fo_Rt_2 rfl rfl rfl rfl ?_
      refine Agg.chLoadB H1.out (by decide +kernel) rfl rfl (by rfl) rfl rfl ?_
      refine Agg.chMove rfl rfl rfl rfl ?_
      refine Agg.chIA tiInt (by omega) (by omega) rfl rfl rfl rfl rfl ?_
      refine Agg.chLoad rfl rfl rfl rfl (by decide +kernel) (by simp only [Int.toNat_natCast, Nat.mul_one]; exact HCL.out) ?_
      refine Agg.chQuo (z / 256) rfl rfl rfl (by decide) HQ.out.1 rfl rfl ?_
      refine Agg.chInt (z / 256 % 256) HQ.out.2.2.1 (by kernel_rfl) Try.underlying5 rfl rfl rfl rfl ?_
      refine Agg.chFA fo_Rt_2 rfl rfl rfl rfl ?_
      refine Agg.chLoadB H1.out (by decide +kernel) rfl rfl (by rfl) rfl rfl ?_
      refine Agg.chMove rfl rfl rfl rfl ?_
      refine Agg.chIA tiInt (by omega) (by omega) rfl rfl rfl rfl rfl ?_
      refine Agg.chLoad rfl rfl rfl rfl (by decide +kernel) (by simp only [Int.toNat_natCast, Nat.mul_one]; exact HCL.out) ?_
      refine Agg.chRem (z % 256) rfl rfl rfl (by decide) HQ.out.2.1 rfl rfl ?_
      refine Agg.chInt (z % 256) HQ.out.2.2.2 (by kernel_rfl) Try.underlying5 rfl rfl rfl rfl ?_
      refine Agg.chBuildSlice (e := 5) (ps := [(0, .tmp 24), (1, .tmp 31)]) #[.int .u8 (z / 256 % 256), .int .u8 (z % 256)] rfl rfl rfl rfl (fun W => by kernel_rfl) ?_
      refine Agg.chEnd ?_
      intro vs w31 hb hf
      simp only [List.reverse, List.reverseAux, Agg.Facts] at hf
      obtain ⟨⟨g15, hv15, hg15, hb15⟩, _⟩ := hf
      simp only [List.reverse, List.reverseAux, Agg.fill, List.set_cons_succ, List.set_cons_zero, hv15]
      have hbA := HB.out.trans (hb.mono HB.out.size)
      have hoW := own_keep HO.out hb
      have h1W := H1.out.keep hb
      have hsl := SlR.ofBlk hb15 0 2 2 _ rfl rfl (Nat.le_refl _) (by unfold maxLen; decide)
      refine Agg.append2 ti25 _ _ rfl rfl w.heap.size (v := .slice x3 (1 + 2 * k) c3) rfl hoW rfl hsl (by simp [Value.oneCell']) (by unfold maxLen; omega) (by omega) hbA.size ?_
      intro v4 w4 ho4 hg4 _
      have e3 : 1 + 2 * k + 2 = 1 + 2 * (k + 1) := by omega
      have e4 : bv (UInt8.ofNat n :: (L.take k).flatMap (beB 2)) ++ [.int .u8 (z / 256 % 256), .int .u8 (z % 256)] = bv (UInt8.ofNat n :: (L.take (k + 1)).flatMap (beB 2)) := by rw [HST.out, bv_append, HBZ.out]
      obtain ⟨x4, c4, rfl, _, _⟩ := (ownSl ho4).shape
      have hob := own_block hoW
      have ho4' : w4.ownsRow w.heap.size 5 1 (.slice x4 (1 + 2 * k + 2) c4) (1 + 2 * k + 2) (bv (UInt8.ofNat n :: (L.take (k + 1)).flatMap (beB 2))) := by
        rw [← e4]; exact ho4
      rw [e3] at ho4'
      have HX1 := Lib.hid ho4'
      have HX2 := Lib.hid (blk_row h1W hg4 (own_apart hoW h1W (by decide)))
      have HX3 := Lib.hid (hbA.trans (grown_below hg4 hbA.size hob))
      clear ho4 ho4' hg4 hoW h1W hsl hb15 hbA hb e4 hob
      rw [e3, Agg.put_eq]
      simp only [List.set_cons_succ, List.set_cons_zero]
      refine Agg.tAssign rfl rfl rfl ?_
      simp only [Agg.ev, List.getD_cons_zero, List.getD_cons_succ, List.set_cons_succ, List.set_cons_zero]
      refine Agg.wpNil ?_
      clear e3
      go_wp2_with fail
      exact ⟨⟨k + 1, x4, c4, by omega, by go_num, rfl, HX1.out, HX2.out, HX3.out⟩, by simp [intOf]; omega⟩
    · obtain rfl : k = n := by omega
      have hby : 0 ≤ by' ∧ by' < 16777216 := by omega
      have hq1 : IntKind.i64.wrap (by'.tdiv 16777216) = by' / 16777216 := by rw [IntKind.wrap_i64, Int.tdiv_eq_ediv_of_nonneg hby.1]; omega
      have hq2 : IntKind.i64.wrap (by'.tdiv 65536) = by' / 65536 := by rw [IntKind.wrap_i64, Int.tdiv_eq_ediv_of_nonneg hby.1]; omega
      have hq3 : IntKind.i64.wrap (by'.tdiv 256) = by' / 256 := by rw [IntKind.wrap_i64, Int.tdiv_eq_ediv_of_nonneg hby.1]; omega
      have hr2 : (by' / 65536).tmod 256 = by' / 65536 % 256 := Int.tmod_eq_emod_of_nonneg (by omega)
      have hr3 : (by' / 256).tmod 256 = by' / 256 % 256 := Int.tmod_eq_emod_of_nonneg (by omega)
      have hr4 : by'.tmod 256 = by' % 256 := Int.tmod_eq_emod_of_nonneg hby.1
      have hu1 : IntKind.u8.wrap (by' / 16777216) = by' / 16777216 % 256 := by simp [IntKind.wrap, IntKind.bits, IntKind.signed]
      have hu2 : IntKind.u8.wrap (by' / 65536 % 256) = by' / 65536 % 256 := u8_small (by omega) (by omega)
      have hu3 : IntKind.u8.wrap (by' / 256 % 256) = by' / 256 % 256 := u8_small (by omega) (by omega)
      have hu4 : IntKind.u8.wrap (by' % 256) = by' % 256 := u8_small (by omega) (by omega)
      have HQ := Lib.hid (And.intro hq1 (And.intro hq2 hq3))
      have HR := Lib.hid (And.intro hr2 (And.intro hr3 hr4))
      have HU := Lib.hid (And.intro hu1 (And.intro hu2 (And.intro hu3 hu4)))
      clear hq1 hq2 hq3 hr2 hr3 hr4 hu1 hu2 hu3 hu4
      go_upto_region 6 with (fail)
      clear c2
      refine Agg.listR 20 (by kernel_rfl) ?_
      simp only [List.take_succ_cons, List.take_zero, List.drop_succ_cons, List.drop_zero]
      refine Agg.chMove rfl rfl rfl rfl ?_
      refine Agg.chFA fo_Rt_3 rfl rfl rfl rfl ?_
      refine Agg.chLoadB H1.out (by decide +kernel) rfl rfl (by rfl) rfl rfl ?_
      refine Agg.chQuo (by' / 16777216) rfl rfl rfl (by decide) HQ.out.1 rfl rfl ?_
      refine Agg.chInt (by' / 16777216 % 256) HU.out.1 (by kernel_rfl) Try.underlying5 rfl rfl rfl rfl ?_
      refine Agg.chFA fo_Rt_3 rfl rfl rfl rfl ?_
      refine Agg.chLoadB H1.out (by decide +kernel) rfl rfl (by rfl) rfl rfl ?_
      refine Agg.chQuo (by' / 65536) rfl rfl rfl (by decide) HQ.out.2.1 rfl rfl ?_
      refine Agg.chRem (by' / 65536 % 256) rfl rfl rfl (by decide) HR.out.1 rfl rfl ?_
      refine Agg.chInt (by' / 65536 % 256) HU.out.2.1 (by kernel_rfl) Try.underlying5 rfl rfl rfl rfl ?_
      refine Agg.chFA fo_Rt_3 rfl rfl rfl rfl ?_
      refine Agg.chLoadB H1.out (by decide +kernel) rfl rfl (by rfl) rfl rfl ?_
      refine Agg.chQuo (by' / 256) rfl rfl rfl (by decide) HQ.out.2.2 rfl rfl ?_
      refine Agg.chRem (by' / 256 % 256) rfl rfl rfl (by decide) HR.out.2.1 rfl rfl ?_
      refine Agg.chInt (by' / 256 % 256) HU.out.2.2.1 (by kernel_rfl) Try.underlying5 rfl rfl rfl rfl ?_
      refine Agg.chFA fo_Rt_3 rfl rfl rfl rfl ?_
      refine Agg.chLoadB H1.out (by decide +kernel) rfl rfl (by rfl) rfl rfl ?_
      refine Agg.chRem (by' % 256) rfl rfl rfl (by decide) HR.out.2.2 rfl rfl ?_
      refine Agg.chInt (by' % 256) HU.out.2.2.2 (by kernel_rfl) Try.underlying5 rfl rfl rfl rfl ?_
      refine Agg.chBuildSlice (e := 5) (ps := [(0, .tmp 38), (1, .tmp 43), (2, .tmp 48), (3, .tmp 52)]) #[.int .u8 (by' / 16777216 % 256), .int .u8 (by' / 65536 % 256), .int .u8 (by' / 256 % 256), .int .u8 (by' % 256)] rfl rfl rfl rfl (fun W => by kernel_rfl) ?_
      refine Agg.chEnd ?_
      intro vs w32 hb hf
      simp only [List.reverse, List.reverseAux, Agg.Facts] at hf
      obtain ⟨⟨g15, hv15, hg15, hb15⟩, _⟩ := hf
      simp only [List.reverse, List.reverseAux, Agg.fill, List.set_cons_succ, List.set_cons_zero, hv15]
      have hbA := HB.out.trans (hb.mono HB.out.size)
      have hoW := own_keep HO.out hb
      have hsl := SlR.ofBlk hb15 0 4 4 _ rfl rfl (Nat.le_refl _) (by unfold maxLen; decide)
      have hszB := hbA.size
      have hone : ∀ u ∈ [Value.int .u8 (by' / 16777216 % 256), .int .u8 (by' / 65536 % 256), .int .u8 (by' / 256 % 256), .int .u8 (by' % 256)], u.oneCell' = true := by simp [Value.oneCell']
      clear hb
      go_wp2_with (refine Agg.append2 ti25 _ _ rfl rfl w.heap.size (v := .slice x3 (1 + 2 * k) c3) rfl hoW rfl hsl hone (by unfold maxLen; omega) (by omega) hszB ?_; intro v4 w4 ho4 hg4 _)
      go_ret
      refine ⟨_, rfl, ?_, hbA.trans (grown_below hg4 hszB (own_block hoW))⟩
      have h4 := ownSl ho4
      have e4 : bv (UInt8.ofNat k :: (L.take k).flatMap (beB 2)) ++ [.int .u8 (by' / 16777216 % 256), .int .u8 (by' / 65536 % 256), .int .u8 (by' / 256 % 256), .int .u8 (by' % 256)] = bv DD := by
        rw [← bv_be4, ← bv_append, HDE.out]
        congr 2
        rw [← HN.out, List.take_length]
      have e5 : 1 + 2 * k + 4 = DD.length := by rw [HDL.out]; omega
      show SlR _ _ 1 DD.length (bv DD)
      rw [← e5]
      exact e4 ▸ h4
end Go.Proofs.Ytjnnnnolikbjcaa
