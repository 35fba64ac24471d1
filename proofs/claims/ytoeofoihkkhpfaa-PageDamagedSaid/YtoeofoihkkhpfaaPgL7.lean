/-
  THE WALK OF LAYER 17's STATEMENT PageDamaged.
-/
import Derived.Test.YtoeofoihkkhpfaaPgL3
namespace Go.Proofs.Ytoeofoihkkhpfaa
open Go.ChangeShapes Go.WideShapes Go.ChangeAt Go.RowKit Agg Pg

theorem u32_bv {z : Int} (h : (Lit.int .u32 z).wf = true) : ∃ s : Crc.W, z = (s.toNat : Int) := by
  simp only [Lit.wf, Bool.and_eq_true, IntKind.min, IntKind.max, IntKind.signed, IntKind.bits] at h
  have h2 : 0 ≤ z ∧ z ≤ 4294967295 := by simpa using h
  exact ⟨BitVec.ofNat 32 z.toNat, by rw [BitVec.toNat_ofNat]; omega⟩
theorem u64_993 (z : Int) : ∃ n : Nat, n < 993 ∧ wrap64 ((IntKind.u64.wrap z).tmod 993) = (n : Int) := by
  have h0 : 0 ≤ IntKind.u64.wrap z := by simp [IntKind.wrap, IntKind.bits, IntKind.signed]; omega
  rw [Int.tmod_eq_emod_of_nonneg h0]
  refine ⟨(IntKind.u64.wrap z % 993).toNat, by omega, ?_⟩
  rw [IntWalk.wrap64_in _ (by omega)]; omega
theorem secsOf_map (n : Nat) (l : List UInt8) : secsOf n l = (List.range 4).map fun s => (n, (l.drop (32 * s)).take 32) := rfl
theorem secsOf_flip (n : Nat) (l : List UInt8) (_hl : l.length = 128) (p : Nat) (_hp : p / 8 < 128) (hk : p / 8 < l.length) (h : p / 8 / 32 < (secsOf n l).length) :
    (secsOf n l).set (p / 8 / 32) (n, ((secsOf n l)[p / 8 / 32]).2.set (p / 8 % 32) (l[p / 8] ^^^ UInt8.ofNat (128 / 2 ^ (p % 8)))) = secsOf n (Crc.flip l p) := by
  obtain ⟨c, hc⟩ : ∃ c, c = l[p / 8] ^^^ UInt8.ofNat (128 / 2 ^ (p % 8)) := ⟨_, rfl⟩
  have hf : Crc.flip l p = l.set (p / 8) c := by
    unfold Crc.flip
    apply List.ext_getElem (by simp)
    intro i h1 h2
    rw [List.getElem_modify, List.getElem_set]
    by_cases hi : p / 8 = i
    · subst hi; simp [hc]
    · simp [hi]
  rw [hf, ← hc]
  generalize p / 8 = k at *
  apply List.ext_getElem (by simp [secsOf])
  intro s h1 h2
  have hs4 : s < 4 := by simpa [secsOf] using h2
  rw [List.getElem_set]
  simp only [secsOf_map, List.getElem_map, List.getElem_range]
  by_cases hs : k / 32 = s
  · rw [if_pos hs, hs]
    congr 1
    apply List.ext_getElem (by simp)
    intro j g1 g2
    have hj32 : j < 32 := by
      have : j < ((l.drop (32 * s)).take 32).length := by simpa using g1
      rw [List.length_take] at this; omega
    rw [List.getElem_set]
    simp only [List.getElem_take, List.getElem_drop, List.getElem_set]
    by_cases hj : k % 32 = j
    · rw [if_pos hj, if_pos (by omega)]
    · rw [if_neg hj, if_neg (by omega)]
  · rw [if_neg hs]
    congr 1
    apply List.ext_getElem (by simp)
    intro j g1 g2
    have hj32 : j < 32 := by
      rw [List.length_take] at g1; omega
    simp only [List.getElem_take, List.getElem_drop, List.getElem_set]
    rw [if_neg (by omega)]
theorem bytesB_secsOf_get (n : Nat) (l : List UInt8) (_hl : l.length = 128) (k : Nat) (hk : k < l.length) (h : k / 32 < (secsOf n l).length) (h2 : k % 32 < ((secsOf n l)[k / 32]).2.length) : ((secsOf n l)[k / 32]).2[k % 32] = l[k] := by
  simp only [secsOf_map, List.getElem_map, List.getElem_range, List.getElem_take, List.getElem_drop]
  congr 1
  omega
/-- what is read of a page's block that is damaged -/
theorem damaged_plain (kind : Int) (d : List UInt8) (n pos : Nat) (t : Crc.W) (hp : pageP kind d) (hn : stampP n) (hpos : pos + 32 ≤ 1024) (ht : t.toNat ≠ 0) :
    readR (secsOf n (Crc.burst (Crc.lay (pre kind d)) pos t.toNat 32)) = ((0, []), 0, 271) := by
  have hl : (Crc.lay (pre kind d)).length = 128 := by rw [lay_len, pre_length _ _ hp.2.2]
  have hbl : (Crc.burst (Crc.lay (pre kind d)) pos t.toNat 32).length = 128 := by rw [Crc.burst_length, hl]
  have hs : stampB (secsOf n (Crc.burst (Crc.lay (pre kind d)) pos t.toNat 32)) = true := by
    simp [stampB, st0, hn, secsOf]
  rw [readR, if_pos hs, secsOf_bytes _ _ hbl, if_neg]
  exact Crc.burst_not _ pos t.toNat t.isLt ht (by rw [hl]; omega) (Crc.lay_sum _)
theorem burst_zero (l : List UInt8) (pos : Nat) : ∀ k, Crc.burst l pos 0 k = l
  | 0 => rfl
  | k + 1 => by rw [Crc.burst, Nat.zero_div, if_neg (by decide), burst_zero l pos k]
theorem secsOf_bok (n : Nat) (l : List UInt8) (hl : l.length = 128) (hn : stampP n) : BOk (secsOf n l) := by
  have hk := secsOf_ok n l hl
  refine ⟨hk.1, fun s hs => ⟨hk.2 s hs, ?_⟩⟩
  simp only [secsOf, List.mem_cons, List.not_mem_nil, or_false] at hs
  unfold stampP at hn
  rcases hs with rfl | rfl | rfl | rfl <;> simp only <;> omega
set_option maxHeartbeats 8000000 in
set_option maxRecDepth 100000 in
theorem damaged_any (k1 : Int) (x1 : List UInt8) (v1 : Value) (n : Nat) (at1 : Int) (t : Crc.W) (w : World) (hv1 : Bytes w v1 x1) :
    Calls Try.prog 6 #[.agg #[.int .i64 k1, v1], .int .u64 (n : Int), .int .i64 at1, .int .u32 (t.toNat : Int)] w fun e w' => e = .returned (.bool true) ∧ Below w.heap.size w w' := by
  have HX1 := Lib.hid hv1
  obtain ⟨y1, c1, rfl, _, _⟩ := SlR.shape hv1
  have hz1 := blkC_one zeroB
  clear hv1
  have HB := Lib.hid (Below.refl w.heap.size w)
  go_enter Try.func6, Try.ntmps6
  go_wp2_with fail
  refine Agg.calls_at fun w1 hw1 => ?_
  have hb : Below w.heap.size w w1 := by rw [hw1.out]; repeat (first | exact Below.refl _ _ | refine Agg.bel_drew ?_ | refine Agg.bel_alloc ?_ _)
  replace HB := Lib.hid (HB.out.trans (hb.mono HB.out.size))
  replace HX1 := Lib.hid (HX1.out.keep hb)
  clear hb
  have H3 : Hid (Blk w1 w.heap.size 24 [.int .i64 k1, .slice y1 x1.length c1]) := by show Blk _ _ _ _; rw [hw1.out]; exact Blk.new w 24 #[.int .i64 k1, .slice y1 x1.length c1]
  clear hw1
  refine (wakes_any w1).mono ?_
  rintro e w2 ⟨rfl, hb⟩
  replace HB := Lib.hid (HB.out.trans (hb.mono HB.out.size))
  replace HX1 := Lib.hid (HX1.out.keep hb)
  replace H3 := Lib.hid (H3.out.keep hb)
  clear hb
  have xH3_0 := H3.out.cell 0
  have xH3_1 := H3.out.cell 1
  have lH3 := H3.out.lt
  simp only [List.getElem?_cons_zero, List.getElem?_cons_succ] at xH3_0 xH3_1
  go_wp2_with fail
  clear xH3_0 xH3_1 lH3
  refine (own_any k1 x1 _ w2 HX1.out).mono ?_
  rintro e w3 ⟨u1, rfl, hb1, hb⟩
  replace HB := Lib.hid (HB.out.trans (hb.mono HB.out.size))
  replace HX1 := Lib.hid (HX1.out.keep hb)
  replace H3 := Lib.hid (H3.out.keep hb)
  clear hb
  obtain ⟨ys1, cs1, rfl, _, _⟩ := SlR.shape hb1
  have HD1 := Lib.hid hb1
  clear hb1
  obtain ⟨d1, hd1⟩ : ∃ d1, d1 = x1.take 200 := ⟨_, rfl⟩
  rw [← hd1] at HD1 ⊢
  clear hd1
  go_wp2_with fail
  by_cases hok : pageP k1 d1 ∧ stampP n
  · refine (layP_any k1 d1 n _ w3 HD1.out (layB k1 d1 n) 0 (if_pos hok)).mono ?_
    rintro e w4 ⟨rfl, hb⟩
    replace HB := Lib.hid (HB.out.trans (hb.mono HB.out.size))
    replace HD1 := Lib.hid (HD1.out.keep hb)
    clear hb
    obtain ⟨L, hL⟩ : ∃ L, L = Crc.lay (pre k1 d1) := ⟨_, rfl⟩
    have hLl : L.length = 128 := by rw [hL, lay_len, pre_length _ _ hok.1.2.2]
    have hbl : layB k1 d1 n = secsOf n L := by rw [hL]; rfl
    have HREAD0 := Lib.hid (read_lay k1 d1 n hok.1 hok.2)
    have HREAD := Lib.hid (fun pos (hpos : pos + 32 ≤ 1024) (ht : t.toNat ≠ 0) => damaged_plain k1 d1 n pos t hok.1 hok.2 hpos ht)
    rw [← hL] at HREAD
    rw [hbl] at HREAD0 ⊢
    have HBK := Lib.hid (fun l (hl : l.length = 128) => secsOf_bok n l hl hok.2)
    have HLL := Lib.hid hLl
    have hl132 := bok_cells (HBK.out L hLl)
    have hl1 := blkC_one (secsOf n L)
    clear hL hok hbl hLl HX1 H3
    have hsz := HB.out.size
    go_upto_region 6 with (first
      | (refine Agg.allocRow 36 (blkC zeroB).toArray rfl rfl (by kernel_rfl) ?_; simp only [Act.put, List.setIfInBounds_toArray, List.set_cons_succ, List.set_cons_zero])
      | (refine Agg.gStoreNew 132 (blkC (secsOf n L)) rfl rfl rfl rfl rfl rfl (by decide +kernel) hl132 (by simp [zero132]) hl1 ?_; simp only [Act.put]))
    refine Agg.wp_at fun w5 hw5 => ?_
    have hb : Below w4.heap.size w4 w5 := by rw [hw5.out]; repeat (first | exact Below.refl _ _ | refine Agg.bel_drew ?_ | refine Agg.bel_alloc ?_ _)
    replace HB := Lib.hid (HB.out.trans (hb.mono HB.out.size))
    clear hb
    have H9 : Hid (Blk w5 w4.heap.size 36 (blkC (secsOf n L))) := by show Blk _ _ _ _; rw [hw5.out]; exact Blk.new w4 36 (blkC (secsOf n L)).toArray
    clear hw5 hl132 hl1
    have hg9 : w.heap.size ≤ w4.heap.size := hsz
    generalize w4.heap.size = g9 at *
    obtain ⟨pos, hpos, hpe⟩ := u64_993 at1
    go_wp2_with fail
    rw [hpe]
    clear hpe
    go_loopw [30] (fun i wr => ∃ k : Nat, k ≤ 32 ∧ i = .int .i64 k ∧ Blk wr g9 36 (blkC (secsOf n (Crc.burst L pos t.toNat k))) ∧ Below w.heap.size w wr) (fun i _ => 32 - (intOf i).toNat)
    case atStart => exact ⟨0, by omega, rfl, H9.out, HB.out⟩
    case round =>
      obtain ⟨k, hk, rfl, hq1, hq2⟩ := hrel
      replace HB := Lib.hid hq2
      have HBL : Hid ((Crc.burst L pos t.toNat k).length = 128) := Lib.hid (by rw [Crc.burst_length, HLL.out])
      replace H9 := Lib.hid hq1
      clear hq1 hq2
      by_cases hlt : k < 32
      · have hba := bit_and t (31 - k)
        have htl := t.isLt
        have hgl : t.getLsbD (31 - k) = decide (t.toNat / 2 ^ (31 - k) % 2 = 1) := by rw [BitVec.getLsbD, Nat.testBit_eq_decide_div_mod_eq]
        by_cases hbit : t.toNat / 2 ^ (31 - k) % 2 = 1
        · rw [hgl] at hba
          simp only [hbit, decide_true, if_true] at hba
          have HS : Hid (Crc.burst L pos t.toNat (k + 1) = Crc.flip (Crc.burst L pos t.toNat k) (pos + k)) := by
            show _ = _
            rw [Crc.burst, if_pos hbit]
          clear hgl hbit
          obtain ⟨l, hll⟩ : ∃ l, l = Crc.burst L pos t.toNat k := ⟨_, rfl⟩
          rw [← hll] at HBL H9 HS
          clear hll
          go_upto_region 12 with (fail)
          obtain ⟨kk, hkk⟩ : ∃ kk, kk = (pos + k) / 8 := ⟨_, rfl⟩
          rw [show ((pos : Int) + (k : Int)) / 8 = ((kk : Nat) : Int) by omega]
          have hk128 : kk < 128 := by omega
          obtain ⟨q, rr, hqr, hq4, hr32⟩ : ∃ q rr, kk = 32 * q + rr ∧ q < 4 ∧ rr < 32 := ⟨kk / 32, kk % 32, by omega, by omega, by omega⟩
          have hkl : kk < l.length := by rw [HBL.out]; exact hk128
          have hok := secsOf_ok n l HBL.out
          have hcell : wr.cell? ⟨g9, 0 + (q : Int).toNat * 33 + 1 + (rr : Int).toNat * 1, none⟩ = some (.int .u8 (l[kk].toNat : Int)) := by
            have hqn : q < (secsOf n l).length := by rw [hok.1]; exact hq4
            have hrn : rr < ((secsOf n l)[q]).2.length := by rw [hok.2 _ (List.getElem_mem _)]; exact hr32
            have h1 := blkC_byte (secsOf n l) hok.2 q hqn [] rr hrn
            rw [List.append_nil] at h1
            have e : ((secsOf n l)[q]).2[rr] = l[kk] := by
              simp only [secsOf_map, List.getElem_map, List.getElem_range, List.getElem_take, List.getElem_drop]
              congr 1
              omega
            rw [e] at h1
            rw [H9.out.cell, show 0 + (q : Int).toNat * 33 + 1 + (rr : Int).toNat * 1 = q * 33 + (1 + rr) by simp; omega]
            exact h1
          obtain ⟨cN, hcN⟩ : ∃ cN, cN = l[kk] ^^^ UInt8.ofNat (128 / 2 ^ ((pos + k) % 8)) := ⟨_, rfl⟩
          have hx : bits .xor .u8 (l[kk].toNat : Int) ((128 / 2 ^ ((pos + k) % 8) : Nat) : Int) = (cN.toNat : Int) := by
            rw [bits_xor .u8 _ _ rfl (l[kk].toNat_lt) (Nat.lt_of_le_of_lt (Nat.div_le_self _ _) (by decide)), hcN, UInt8.toNat_xor, UInt8.toNat_ofNat']
            congr 2
            exact (Nat.mod_eq_of_lt (Nat.lt_of_le_of_lt (Nat.div_le_self _ _) (by decide))).symm
          have HSTEP : Hid (spliced (blkC (secsOf n l)) (q * 33 + 1 + rr) [.int .u8 (cN.toNat : Int)] = blkC (secsOf n (Crc.burst L pos t.toNat (k + 1)))) := by
            show _ = _
            have h1 := blkC_one_byte (secsOf n l) hok.2 q (by rw [hok.1]; exact hq4) rr hr32 cN []
            rw [List.append_nil, List.append_nil] at h1
            rw [h1, HS.out, hcN]
            have e1 : q = (pos + k) / 8 / 32 := by omega
            have e2 : rr = (pos + k) / 8 % 32 := by omega
            subst hkk
            have h2 := secsOf_flip n l HBL.out (pos + k) hk128 hkl (by rw [hok.1]; omega)
            rw [← h2]
            have e3 : ∀ (s : Nat) (hs : s < (secsOf n l).length), ((secsOf n l)[s]).1 = n := fun s hs => by simp only [secsOf_map, List.getElem_map]
            rw [e3]
            subst e1
            subst e2
            rfl
          have hfit : q * 33 + 1 + rr + 1 ≤ (blkC (secsOf n l)).length := by rw [blkC_length _ hok.2, hok.1]; omega
          have hquo : ∀ w, (binOp .quo 3 (.int .i64 (kk : Int)) (.int .i64 32)).run Try.prog w = .ok (.int .i64 (q : Int)) w := by
            intro w
            have := run_quo (P := Try.prog) 3 kk 32 (by omega) (by decide) w
            rwa [show kk / 32 = q by omega] at this
          have hrem : ∀ w, (binOp .rem 3 (.int .i64 (kk : Int)) (.int .i64 32)).run Try.prog w = .ok (.int .i64 (rr : Int)) w := by
            intro w
            have := run_rem (P := Try.prog) 3 kk 32 (by decide) w
            rwa [show kk % 32 = rr by omega] at this
          clear hcN hba hqr
          generalize l[kk] = c at *
          refine Agg.chainR 17 (by kernel_rfl) (by kernel_rfl) ?_
          simp only [List.take_succ_cons, List.take_zero, List.drop_succ_cons, List.drop_zero]
          refine Agg.chMove rfl rfl rfl rfl ?_
          refine Agg.chBin (v := .int .i64 (q : Int)) rfl rfl rfl rfl rfl (fun _ => rfl) (fun w => hquo w) ?_
          refine Agg.chMove rfl rfl rfl rfl ?_
          refine Agg.chBin (v := .int .i64 (rr : Int)) rfl rfl rfl rfl rfl (fun _ => rfl) (fun w => hrem w) ?_
          refine Agg.chIAA aiB (by omega) (by omega) rfl rfl rfl rfl rfl ?_
          refine Agg.chFA (by first | exact fo_Page_1 | exact fo_Sec_1) rfl rfl rfl rfl ?_
          refine Agg.chIAA aiD (by omega) (by omega) rfl rfl rfl rfl rfl ?_
          refine Agg.chLoad rfl rfl rfl rfl (by decide +kernel) hcell ?_
          refine Agg.chMove rfl rfl rfl rfl ?_
          refine Agg.chMove rfl rfl rfl rfl ?_
          refine Agg.chAr64 rfl rfl rfl (congrArg some (show (pos : Int) + (k : Int) = ((pos + k : Nat) : Int) by omega)) (by omega) (by omega) rfl rfl ?_
          refine Agg.chBin (v := .int .i64 (((pos + k) % 8 : Nat) : Int)) rfl rfl rfl rfl rfl (fun _ => rfl) (fun w => run_rem 3 (pos + k) 8 (by decide) w) ?_
          refine Agg.chBin (v := .int .u8 ((128 / 2 ^ ((pos + k) % 8) : Nat) : Int)) rfl rfl rfl rfl rfl (fun _ => rfl) (fun w => run_shr_u8 5 128 ((pos + k) % 8) (by omega) w) ?_
          refine Agg.chBin (v := .int .u8 (cN.toNat : Int)) rfl rfl rfl rfl rfl (fun _ => rfl) (fun w => run_xor_u8 5 _ _ _ hx w) ?_
          refine Agg.chIAA aiB (by omega) (by omega) rfl rfl rfl rfl rfl ?_
          refine Agg.chFA (by first | exact fo_Page_1 | exact fo_Sec_1) rfl rfl rfl rfl ?_
          refine Agg.chIAA aiD (by omega) (by omega) rfl rfl rfl rfl rfl ?_
          refine Agg.chEnd ?_
          intro vs w41 hb hf
          simp only [List.reverse, List.reverseAux, Agg.Facts] at hf
          obtain _ := hf
          simp only [List.reverse, List.reverseAux, Agg.fill, List.set_cons_succ, List.set_cons_zero]
          have hbz := HB.out.size
          have h9 := H9.out.keep hb
          replace HB := Lib.hid (HB.out.trans (hb.mono hbz))
          clear hb hcell
          refine Agg.gStoreCell (0 + (q : Int).toNat * 33 + 1 + (rr : Int).toNat * 1) (.int .u8 (cN.toNat : Int)) h9 rfl rfl rfl rfl rfl (by kernel_rfl) rfl (by rw [show 0 + (q : Int).toNat * 33 + 1 + (rr : Int).toNat * 1 = q * 33 + 1 + rr by simp]; exact hfit) rfl (fun w6 hb6 hg6 => ?_)
          refine Agg.wpNil ?_
          rw [show 0 + (q : Int).toNat * 33 + 1 + (rr : Int).toNat * 1 = q * 33 + 1 + rr by simp, HSTEP.out] at hb6
          have hbw := HB.out.trans (grown_below hg6 HB.out.size (fun j hj => (by cases hj; exact hg9)))
          go_wp2_with fail
          go_roundw
          case rel => exact ⟨k + 1, by omega, by go_num, hb6, hbw⟩
          case measure => simp [intOf]; omega
        · rw [hgl] at hba
          simp only [hbit, decide_false, Bool.false_eq_true, if_false] at hba
          have HS : Hid (Crc.burst L pos t.toNat (k + 1) = Crc.burst L pos t.toNat k) := by
            show _ = _
            rw [Crc.burst, if_neg hbit]
          clear hgl hbit
          go_wp2_with fail
          go_roundw
          case rel => exact ⟨k + 1, by omega, by go_num, by rw [HS.out]; exact H9.out, HB.out⟩
          case measure => simp [intOf]; omega
      · obtain rfl : k = 32 := by omega
        have h9 := H9.out
        have hbok := HBK.out _ HBL.out
        have h132 := bok_cells hbok
        by_cases ht0 : t.toNat = 0
        · have e : Crc.burst L pos t.toNat 32 = L := by rw [ht0]; exact burst_zero L pos 32
          rw [e] at h9 hbok h132
          have hti : ((t.toNat : Int) == 0) = true := by simp [ht0]
          clear ht0 e
          go_wp2_with (refine Agg.gLoadB 132 h9 h132 rfl rfl rfl (by decide +kernel) ?_; simp only [Act.put, List.setIfInBounds_toArray, List.set_cons_succ, List.set_cons_zero])
          refine (read_any (secsOf n L) hbok wr k1 d1 n 0 HREAD0.out).mono ?_
          rintro e w42 ⟨u, rfl, hou, hb⟩
          replace HB := Lib.hid (HB.out.trans (hb.mono HB.out.size))
          clear hb
          obtain ⟨xu, cu, rfl, _, _⟩ := (ownSl hou).shape
          clear hou h9
          go_wp2_with fail
          go_ret
          exact ⟨rfl, HB.out⟩
        · have hr := HREAD.out pos (by omega) ht0
          have hti : ((t.toNat : Int) == 0) = false := by simp; omega
          clear ht0
          go_wp2_with (refine Agg.gLoadB 132 h9 h132 rfl rfl rfl (by decide +kernel) ?_; simp only [Act.put, List.setIfInBounds_toArray, List.set_cons_succ, List.set_cons_zero])
          refine (read_any _ hbok wr 0 [] 0 271 hr).mono ?_
          rintro e w43 ⟨u, rfl, hou, hb⟩
          replace HB := Lib.hid (HB.out.trans (hb.mono HB.out.size))
          clear hb
          obtain ⟨xu, cu, rfl, _, _⟩ := (ownSl hou).shape
          clear hou h9
          go_wp2_with fail
          go_ret
          exact ⟨rfl, HB.out⟩
  · have hz2 := hz1
    refine (layP_any k1 d1 n _ w3 HD1.out zeroB 2 (if_neg hok)).mono ?_
    rintro e w44 ⟨rfl, hb⟩
    replace HB := Lib.hid (HB.out.trans (hb.mono HB.out.size))
    replace HD1 := Lib.hid (HD1.out.keep hb)
    clear hb
    clear hok
    go_wp2_with (first
      | (refine Agg.allocRow 36 (blkC zeroB).toArray rfl rfl (by kernel_rfl) ?_; simp only [Act.put, List.setIfInBounds_toArray, List.set_cons_succ, List.set_cons_zero])
      | (refine Agg.gStoreNew 132 (blkC zeroB) rfl rfl rfl rfl rfl rfl (by decide +kernel) zero132 (by simp [zero132]) hz1 ?_; simp only [Act.put]))
    go_ret
    exact ⟨rfl, bel_alloc HB.out _⟩
theorem PageDamaged_walk (c0 : Array Value) (f0 : Nat) (z : Int) (at1 : Int) (tz : Int) (w : World) (h0 : Agg.Good Try.prog w f0 24 c0.toList) (hz : (Lit.int .u64 z).wf = true) (_ : (Lit.int .i64 at1).wf = true) (ht : (Lit.int .u32 tz).wf = true) :
    Calls Try.prog 6 #[.agg c0, .int .u64 z, .int .i64 at1, .int .u32 tz] w fun e w' => e = .returned (.bool true) ∧ Below w.heap.size w w' := by
  obtain ⟨k1, v1, x1, rfl, q1, _, _⟩ := good_page h0
  obtain ⟨n, rfl, _⟩ := u64_wf hz
  obtain ⟨t, rfl⟩ := u32_bv ht
  exact damaged_any k1 x1 v1 n at1 t w q1
end Go.Proofs.Ytoeofoihkkhpfaa
