/-
  PAGES: the document's Lay.
-/
import Derived.Test.YtjnnnnolikbjcaaRFpPgE
namespace Go.Proofs.Ytjnnnnolikbjcaa
open Go.ChangeShapes Go.WideShapes Go.ChangeAt Go.RowKit Agg Pg

/-- the block to which so many bytes came, one by one -/
def outTo (n : Nat) (b : List UInt8) (i : Nat) : List Sec := (List.range 4).map fun s => (if 32 * s < i then n else 0, (List.range 32).map fun j => if 32 * s + j < i then b.getD (32 * s + j) 0 else 0)
theorem outTo_length (n : Nat) (b : List UInt8) (i : Nat) : (outTo n b i).length = 4 := by simp [outTo]
theorem outTo_len (n : Nat) (b : List UInt8) (i : Nat) : Len32 (outTo n b i) := by
  intro s hs
  obtain ⟨i, _, rfl⟩ := List.mem_map.1 hs
  simp
theorem outTo_zero (n : Nat) (b : List UInt8) : outTo n b 0 = zeroB := by
  apply List.ext_getElem (by simp [outTo, zeroB])
  intro i h1 h2
  simp only [outTo, zeroB, List.getElem_map, List.getElem_replicate, Nat.not_lt_zero, if_false]
  congr 1
theorem outTo_all (n : Nat) (b : List UInt8) (hb : b.length = 128) : outTo n b 128 = secsOf n b := by
  rw [← secsTo_all]
  unfold outTo secsTo
  apply List.map_congr_left
  intro s hs
  have h4 : s < 4 := List.mem_range.1 hs
  rw [if_pos (by omega), if_pos h4]
  congr 1
  apply List.ext_getElem (by simp [hb]; omega)
  intro j h1 h2
  have h32 : j < 32 := by simpa using h1
  simp only [List.getElem_map, List.getElem_range, List.getElem_take, List.getElem_drop]
  rw [if_pos (by omega), List.getD_eq_getElem?_getD, List.getElem?_eq_getElem (by omega)]; rfl
theorem outTo_step (n : Nat) (b : List UInt8) (q r : Nat) (_hq : q < 4) (hr : r < 32) (h : q < (outTo n b (32 * q + r)).length) :
    (outTo n b (32 * q + r)).set q (n, ((outTo n b (32 * q + r))[q]).2.set r (b.getD (32 * q + r) 0)) = outTo n b (32 * q + r + 1) := by
  apply List.ext_getElem (by simp [outTo])
  intro s h1 h2
  rw [List.getElem_set]
  simp only [outTo, List.getElem_map, List.getElem_range]
  by_cases hs : q = s
  · subst hs
    rw [if_pos rfl]
    refine Prod.ext ?_ ?_
    · simp only; rw [if_pos (by omega)]
    · simp only
      apply List.ext_getElem (by simp)
      intro j g1 g2
      rw [List.getElem_set]
      simp only [List.getElem_map, List.getElem_range]
      by_cases hj : r = j
      · subst hj; rw [if_pos rfl, if_pos (by omega)]
      · rw [if_neg hj]
        by_cases hlt : 32 * q + j < 32 * q + r
        · rw [if_pos hlt, if_pos (by omega)]
        · rw [if_neg hlt, if_neg (by omega)]
  · rw [if_neg hs]
    refine Prod.ext ?_ ?_
    · simp only
      by_cases hlt : 32 * s < 32 * q + r
      · rw [if_pos hlt, if_pos (by omega)]
      · rw [if_neg hlt, if_neg (by omega)]
    · simp only
      apply List.map_congr_left
      intro j hj
      have : j < 32 := List.mem_range.1 hj
      by_cases hlt : 32 * s + j < 32 * q + r
      · rw [if_pos hlt, if_pos (by omega)]
      · rw [if_neg hlt, if_neg (by omega)]
theorem bv_cut (d : List UInt8) (j : Nat) (h : j < d.length) : bv d = bv (d.take j) ++ [.int .u8 (d[j].toNat : Int)] ++ bv (d.drop (j + 1)) := by
  have e : d = d.take j ++ (d[j] :: d.drop (j + 1)) := by rw [List.getElem_cons_drop]; exact (List.take_append_drop j d).symm
  conv => lhs; rw [e]
  rw [bv_append, List.append_assoc]; rfl
theorem blkC_one_byte (b : List Sec) (hl : Len32 b) (k : Nat) (h : k < b.length) (j : Nat) (hj : j < 32) (c : UInt8) (r : List Value) :
    spliced (blkC b ++ r) (k * 33 + 1 + j) [.int .u8 (c.toNat : Int)] = blkC (b.set k (b[k].1, b[k].2.set j c)) ++ r := by
  have h32 := hl _ (List.getElem_mem h)
  have hjl : j < b[k].2.length := by omega
  have e : blkC b ++ r = (blkC (b.take k) ++ [.int .u64 (b[k].1 : Int)] ++ bv (b[k].2.take j)) ++ [.int .u8 (b[k].2[j].toNat : Int)] ++ (bv (b[k].2.drop (j + 1)) ++ (blkC (b.drop (k + 1)) ++ r)) := by
    conv => lhs; rw [cut_at b k h]
    rw [blkC_append, blkC_cons, secC, bv_cut _ j hjl]; simp only [List.append_assoc, List.cons_append, List.nil_append]
  have e2 : b.set k (b[k].1, b[k].2.set j c) = b.take k ++ ((b[k].1, b[k].2.set j c) :: b.drop (k + 1)) := by rw [List.set_eq_take_append_cons_drop, if_pos h]
  have e3 : bv (b[k].2.set j c) = bv (b[k].2.take j) ++ [.int .u8 (c.toNat : Int)] ++ bv (b[k].2.drop (j + 1)) := by
    rw [List.set_eq_take_append_cons_drop, if_pos hjl, bv_append, List.append_assoc]; rfl
  rw [e, spliced_mid (blkC (b.take k) ++ [Value.int .u64 (b[k].1 : Int)] ++ bv (b[k].2.take j)) [Value.int .u8 (b[k].2[j].toNat : Int)] (bv (b[k].2.drop (j + 1)) ++ (blkC (b.drop (k + 1)) ++ r)) [Value.int .u8 (c.toNat : Int)] (k * 33 + 1 + j) (by rw [List.length_append, List.length_append, take_len b hl k (by omega), bv_length, List.length_take]; simp; omega) rfl, e2, blkC_append, blkC_cons, secC, e3]
  simp only [List.append_assoc, List.cons_append, List.nil_append]
set_option maxHeartbeats 8000000 in
set_option maxRecDepth 100000 in
theorem rLay_any (kind : Int) (d : List UInt8) (n : Nat) (dv : Value) (w : World) (hd : Bytes w dv d) (hp : pageP kind d) :
    Calls Try.prog 63 #[.agg #[.int .i64 kind, dv], .int .u64 (n : Int)] w fun e w' => e = .returned (.agg (blkC (layB kind d n)).toArray) ∧ Below w.heap.size w w' := by
  obtain ⟨x, cap, rfl, hc, hm⟩ := SlR.shape hd
  have hc3 : cap ≤ 9223372036854775807 := by unfold maxLen at hm; omega
  have HD := Lib.hid hd
  have HP := Lib.hid hp
  have hk8 : IntKind.u8.wrap kind = ((UInt8.ofNat kind.toNat).toNat : Int) := by
    unfold pageP at hp
    rw [wrap_u8, UInt8.toNat_ofNat']; omega
  have hl8 : IntKind.u8.wrap (d.length : Int) = ((UInt8.ofNat d.length).toNat : Int) := by
    unfold pageP at hp
    rw [wrap_u8, UInt8.toNat_ofNat']; omega
  have HK8 := Lib.hid hk8
  have HL8 := Lib.hid hl8
  clear hd hm hp hk8 hl8
  have HB := Lib.hid (Below.refl w.heap.size w)
  go_enter Try.func63, Try.ntmps63
  go_upto_region 2 with (first
    | (refine Agg.allocRow 38 (blkC zeroB).toArray rfl rfl (by kernel_rfl) ?_; simp only [Act.put, List.setIfInBounds_toArray, List.set_cons_succ, List.set_cons_zero]))
  refine Agg.wp_at fun w1 hw1 => ?_
  have hb : Below w.heap.size w w1 := by rw [hw1.out]; repeat (first | exact Below.refl _ _ | refine Agg.bel_drew ?_ | refine Agg.bel_alloc ?_ _)
  replace HB := Lib.hid (HB.out.trans (hb.mono HB.out.size))
  replace HD := Lib.hid (HD.out.keep hb)
  clear hb
  have HA : Hid (Blk w1 w.heap.size 92 [.int .i64 kind, .slice x d.length cap]) := by show Blk _ _ _ _; rw [hw1.out]; exact ((Blk.new w 92 #[.int .i64 kind, .slice x d.length cap]).al _).al _
  have HR : Hid (Blk w1 (w.heap.size + 1) 38 (blkC zeroB)) := by show Blk _ _ _ _; rw [hw1.out]; exact (Blk.newAt (w.alloc _) 38 (blkC zeroB).toArray _ (by simp)).al _
  have HO : Hid (w1.ownsRow (w.heap.size + 1 + 1) 5 1 (.slice (some ⟨w.heap.size + 1 + 1, 0, none⟩) 4 4) 4 (bv [UInt8.ofNat kind.toNat, UInt8.ofNat d.length, 0, 0])) := by
    show World.ownsRow _ _ _ _ _ _ _
    rw [hw1.out]
    have h := bytes_slice ((w.alloc (.cells #[.int .i64 kind, .slice x d.length cap] 92)).alloc (.cells (blkC zeroB).toArray 38)) #[.int .u8 (IntKind.u8.wrap kind), .int .u8 (IntKind.u8.wrap (d.length : Int)), .int .u8 0, .int .u8 0] [UInt8.ofNat kind.toNat, UInt8.ofNat d.length, 0, 0] 4 (by rw [HK8.out, HL8.out]; rfl) rfl (by decide) (w.heap.size + 1 + 1) (by simp)
    rw [World.size_alloc, World.size_alloc] at h
    exact h
  clear hw1
  have hown := HO.out
  have hoz : w.heap.size + 1 + 1 < w1.heap.size := (hown.lt _ rfl).2
  have hsld := HD.out
  have hcx := HA.out.cell 1
  simp only [List.getElem?_cons_zero, List.getElem?_cons_succ] at hcx
  have hd120 := HP.out.2.2
  have hwz := HB.out.size
  have hrz := HR.out.lt
  go_wp2_with (refine Agg.append2 ti25 _ _ rfl rfl (w.heap.size + 1 + 1) rfl hown rfl hsld (bv_one d) (by unfold maxLen; omega) (by omega) (by omega) ?_; intro v2 w2 ho2 hg2 _; simp only [Act.put, List.setIfInBounds_toArray, List.set_cons_succ, List.set_cons_zero])
  have hown2 : w2.ownsRow (w.heap.size + 1 + 1) 5 1 v2 (4 + d.length) (bv (UInt8.ofNat kind.toNat :: UInt8.ofNat d.length :: 0 :: 0 :: d)) := by
    rw [← bv_append] at ho2
    exact ho2
  replace HB := Lib.hid (HB.out.trans (grown_below hg2 hwz (own_block (own_mono hown (by omega)))))
  replace HA := Lib.hid (HA.out.far' hg2 (show w.heap.size ≠ w.heap.size + 1 + 1 by omega))
  replace HR := Lib.hid (HR.out.far' hg2 (show w.heap.size + 1 ≠ w.heap.size + 1 + 1 by omega))
  have HO2 := Lib.hid hown2
  clear hown hown2 ho2 hsld hcx HO HD hg2 hwz hrz
  obtain ⟨z5, c5, rfl, _, _⟩ := (ownSl HO2.out).shape
  obtain ⟨pre4, hpre⟩ : ∃ pre4, pre4 = UInt8.ofNat kind.toNat :: UInt8.ofNat d.length :: 0 :: 0 :: d := ⟨_, rfl⟩
  have hprel : pre4.length = 4 + d.length := by rw [hpre]; simp; omega
  have HPL := Lib.hid hprel
  rw [← hpre] at HO2
  have HPRE := Lib.hid hpre
  clear hpre hprel
  go_loopw [5] (fun v wr => ∃ m : Nat, m ≤ 120 - d.length ∧ wr.ownsRow (w.heap.size + 1 + 1) 5 1 v (4 + d.length + m) (bv (pre4 ++ List.replicate m 0)) ∧ Blk wr (w.heap.size + 1) 38 (blkC zeroB) ∧ Below w.heap.size w wr) (fun v _ => match v with | .slice _ m _ => 124 - m | _ => 0)
  case atStart => exact ⟨0, by omega, by simpa using HO2.out, HR.out, HB.out⟩
  case round =>
    obtain ⟨m, hm, ho, hr, hb⟩ := hrel
    replace HB := Lib.hid hb
    replace HR := Lib.hid hr
    have HO := Lib.hid ho
    obtain ⟨x5, cc5, rfl, _, hc5⟩ := (ownSl ho).shape
    unfold maxLen at hc5
    clear ho hr hb HA HO2
    by_cases hlt : 4 + d.length + m < 124
    · have hob := HO.out.keep ((Below.refl _ wr).alloc (Nat.le_refl _) (.cells #[.int .u8 0] 5))
      have hsl := sl_new wr #[.int .u8 0] 5 1 1 rfl (by decide)
      have hsz := HB.out.size
      have hrz := HR.out.lt
      go_wp2_with (refine Agg.append2 ti25 _ _ rfl rfl (w.heap.size + 1 + 1) rfl hob rfl hsl (by simp [Value.oneCell']) (by unfold maxLen; omega) (by omega) (by simp only [World.size_alloc]; omega) ?_; intro v3 w3 ho3 hg3 _; simp only [Act.put, List.setIfInBounds_toArray, List.set_cons_succ, List.set_cons_zero])
      have ho4 : w3.ownsRow (w.heap.size + 1 + 1) 5 1 v3 (4 + d.length + (m + 1)) (bv (pre4 ++ List.replicate (m + 1) 0)) := by
        have e : bv (pre4 ++ List.replicate (m + 1) 0) = bv (pre4 ++ List.replicate m 0) ++ [Value.int .u8 0] := by
          rw [List.replicate_succ', ← List.append_assoc, bv_append]; rfl
        rw [e]; exact ho3
      have hbl := own_block HO.out
      have hr3 : Blk w3 (w.heap.size + 1) 38 (blkC zeroB) := by
        have hw := hg3.block (w.heap.size + 1) (by simp only [World.size_alloc]; omega) (fun e => by have := hbl _ e.symm; omega)
        exact hw.trans (HR.out.al _)
      have hb3 : Below w.heap.size w w3 := (HB.out.alloc hsz _).trans (grown_below hg3 (by simp only [World.size_alloc]; omega) (fun k hk => by have := hbl k hk; omega))
      obtain ⟨x6, c6, rfl, _, _⟩ := (ownSl ho3).shape
      go_roundw
      case rel => exact ⟨m + 1, by omega, ho4, hr3, hb3⟩
      case measure => simp only; omega
    · obtain rfl : m = 120 - d.length := by omega
      have hp4 : pre4 ++ List.replicate (120 - d.length) 0 = pre kind d := by rw [HPRE.out]; rfl
      have e124 : 4 + d.length + (120 - d.length) = 124 := by omega
      rw [hp4, e124] at HO
      rw [e124]
      have hl124 := pre_length kind d HP.out.2.2
      clear hp4 e124 hm hlt HPL HPRE hc5
      go_wp2_with fail
      refine Agg.calls_at fun w21 hw21 => ?_
      have hb : Below wr.heap.size wr w21 := by rw [hw21.out]; repeat (first | exact Below.refl _ _ | refine Agg.bel_drew ?_ | refine Agg.bel_alloc ?_ _)
      replace HB := Lib.hid (HB.out.trans (hb.mono HB.out.size))
      replace HR := Lib.hid (HR.out.keep hb)
      replace HO := Lib.hid (HO.out.keep hb)
      clear hb
      have hby : Bytes w21 (.slice x5 124 cc5) (pre kind d) := own_bytes HO.out hl124
      refine (rsum_any (pre kind d) _ w21 hby).mono ?_
      rintro e w' ⟨rfl, rfl⟩
      go_wp2_with fail
      refine (rbytes_any (Crc.sum (pre kind d)) w21).mono ?_
      rintro e w22 ⟨u, rfl, hou, hb⟩
      replace HB := Lib.hid (HB.out.trans (hb.mono HB.out.size))
      replace HR := Lib.hid (HR.out.keep hb)
      replace HO := Lib.hid (HO.out.keep hb)
      clear hb
      obtain ⟨xu, cu, rfl, _, _⟩ := (ownSl hou).shape
      have hown := HO.out
      have hsz := HB.out.size
      have hrz := HR.out.lt
      have hbl := own_block HO.out
      have hsu := ownSl hou
      go_upto_region 6 with (refine Agg.append2 ti25 _ _ rfl rfl (w.heap.size + 1 + 1) rfl hown rfl hsu (bv_one _) (by unfold maxLen; omega) (by omega) (by omega) ?_; intro v4 w4 ho4 hg4 _; simp only [Act.put, List.setIfInBounds_toArray, List.set_cons_succ, List.set_cons_zero])
      have ho5 : w4.ownsRow (w.heap.size + 1 + 1) 5 1 v4 128 (bv (Crc.lay (pre kind d))) := by
        rw [Crc.lay, bv_append]; exact ho4
      have hr4 : Blk w4 (w.heap.size + 1) 38 (blkC zeroB) := (hg4.block (w.heap.size + 1) hrz (fun e => by have := hbl _ e.symm; omega)).trans HR.out
      replace HB := Lib.hid (HB.out.trans (grown_below hg4 hsz (fun k hk => by have := hbl k hk; omega)))
      replace HR := Lib.hid hr4
      have HO5 := Lib.hid ho5
      obtain ⟨b5, o5, c5', hve, _, hcp5, _, hbl5⟩ := SlR.pos (ownSl ho5) (by decide) (by decide)
      subst hve
      have hb5 := (ho5.lt b5 rfl).1
      have hl128 : (Crc.lay (pre kind d)).length = 128 := by rw [lay_len, hl124]
      have HL128 := Lib.hid hl128
      clear hou hown hsz hrz hbl hsu ho4 ho5 hg4 hr4 hby HO hl128 HK8 HL8
      obtain ⟨b, hbb⟩ : ∃ b, b = Crc.lay (pre kind d) := ⟨_, rfl⟩
      rw [← hbb] at HO5 HL128
      have HBB := Lib.hid hbb
      clear hbb
      go_wp2_with (refine Agg.allocRow 38 (blkC zeroB).toArray rfl rfl (by kernel_rfl) ?_; simp only [Act.put, List.setIfInBounds_toArray, List.set_cons_succ, List.set_cons_zero])
      refine Agg.wp_at fun w41 hw41 => ?_
      have hb : Below w4.heap.size w4 w41 := by rw [hw41.out]; repeat (first | exact Below.refl _ _ | refine Agg.bel_drew ?_ | refine Agg.bel_alloc ?_ _)
      replace HB := Lib.hid (HB.out.trans (hb.mono HB.out.size))
      replace HR := Lib.hid (HR.out.keep hb)
      replace HO5 := Lib.hid (HO5.out.keep hb)
      clear hb
      have HE : Hid (Blk w41 w4.heap.size 38 (blkC zeroB)) := by show Blk _ _ _ _; rw [hw41.out]; exact Blk.newAt w4 38 (blkC zeroB).toArray _ rfl
      clear hw41
      have hrl := HR.out.lt
      have hrp : w.heap.size + 1 < w4.heap.size := by omega
      clear hrl
      have hsz5 : w.heap.size ≤ w4.heap.size := by omega
      generalize w4.heap.size = e at *
      go_loopw [7] (fun i wr => ∃ k : Nat, k ≤ 128 ∧ i = .int .i64 k ∧ Blk wr e 38 (blkC (outTo n b k)) ∧ w41.grownBy wr (some e)) (fun i _ => 128 - (intOf i).toNat)
      case atStart => exact ⟨0, by omega, rfl, by rw [outTo_zero]; exact HE.out, World.grownBy.refl _ _⟩
      case round =>
        obtain ⟨k, hk, rfl, hbk, hgk⟩ := hrel
        have HBK := Lib.hid hbk
        have HGK := Lib.hid hgk
        clear hbk hgk HE
        by_cases hlt : k < 128
        · obtain ⟨q, r, hqr, hq4, hr32⟩ : ∃ q r, k = 32 * q + r ∧ q < 4 ∧ r < 32 := ⟨k / 32, k % 32, by omega, by omega, by omega⟩
          have hquo : ∀ w, (binOp .quo 3 (.int .i64 (k : Int)) (.int .i64 32)).run Try.prog w = .ok (.int .i64 (q : Int)) w := by
            intro w
            have := run_quo (P := Try.prog) 3 k 32 (by omega) (by decide) w
            rwa [show k / 32 = q by omega] at this
          have hrem : ∀ w, (binOp .rem 3 (.int .i64 (k : Int)) (.int .i64 32)).run Try.prog w = .ok (.int .i64 (r : Int)) w := by
            intro w
            have := run_rem (P := Try.prog) 3 k 32 (by decide) w
            rwa [show k % 32 = r by omega] at this
          have HQR := Lib.hid hqr
          clear hqr
          have hbk := HBK.out
          have hfit : k / 32 * 33 + 1 ≤ (blkC (outTo n b k)).length := by rw [blkC_length _ (outTo_len n b k), outTo_length]; omega
          go_upto_region 11 with (refine Agg.gStoreCell (k / 32 * 33) (.int .u64 (n : Int)) hbk rfl rfl rfl rfl rfl (by kernel_rfl) rfl hfit rfl (fun w6 hb6 hg6 => ?_); clear hbk hfit)
          have hst := blkC_stamped _ (outTo_len n b k) q (by rw [outTo_length]; exact hq4) n []
          rw [List.append_nil, List.append_nil] at hst
          rw [show k / 32 = q by have := HQR.out; omega, hst] at hb6
          have hgk6 := grown_trans HGK.out hg6
          obtain ⟨B6, hB6⟩ : ∃ B6, B6 = (outTo n b k).set q (n, ((outTo n b k)[q]'(by rw [outTo_length]; exact hq4)).2) := ⟨_, rfl⟩
          rw [← hB6] at hb6
          have hB6l : Len32 B6 := by rw [hB6]; exact set_len (outTo_len n b k) q _ (outTo_len n b k ((outTo n b k)[q]'(by rw [outTo_length]; exact hq4)) (List.getElem_mem _))
          have hB64 : B6.length = 4 := by rw [hB6]; simp [outTo_length]
          have hkb : k < b.length := by rw [HL128.out]; exact hlt
          have hby1 := blkC_one_byte B6 hB6l q (by omega) r hr32 b[k] []
          have hstep : B6.set q ((B6[q]'(by omega)).1, (B6[q]'(by omega)).2.set r b[k]) = outTo n b (k + 1) := by
            have h0 := HQR.out
            subst h0
            have := outTo_step n b q r hq4 hr32 (by rw [outTo_length]; exact hq4)
            rw [← this]
            subst hB6
            simp only [List.getElem_set_self, List.set_set]
            rw [List.getD_eq_getElem?_getD, List.getElem?_eq_getElem hkb]; rfl
          rw [List.append_nil, List.append_nil, hstep] at hby1
          have hfit6 : q * 33 + 1 + r + 1 ≤ (blkC B6).length := by rw [blkC_length _ hB6l, hB64]; omega
          have hck : w6.cell? ⟨b5, o5 + (k : Int).toNat * 1, none⟩ = some (.int .u8 (b[k].toNat : Int)) := by
            have h2 : w41.cell? ⟨b5, o5 + k, none⟩ = some (.int .u8 (b[k].toNat : Int)) := by
              have := SlR.pos (ownSl HO5.out) (by decide) (by decide)
              obtain ⟨b', o', c', hve, _, _, hcp, _⟩ := this
              simp only [Value.slice.injEq, Option.some.injEq, Addr.mk.injEq, and_true] at hve
              obtain ⟨⟨rfl, rfl⟩, _⟩ := hve
              exact hcp k _ (bv_get b k hkb)
            have h3 := hgk6.cell h2 (by simp; omega)
            simpa using h3
          have HSTEP := Lib.hid hby1
          clear hst hB6 hstep hby1 hg6
          generalize b[k] = c at *
          refine Agg.heldBegin (S := fun z => z.cell? ⟨b5, o5 + (k : Int).toNat * 1, none⟩ = some (.int .u8 (c.toNat : Int))) 12 (by kernel_rfl) rfl ?_
          have hb0 : Below w6.heap.size w6 w6.drew := bel_drew (Below.refl _ _)
          have hc0 := cell_keep hb0 hck
          have hb60 := hb6.keep hb0
          have hgk0 := grown_trans hgk6 (grown_bel (some e) hb0)
          generalize w6.drew = z0 at hb0 hc0 hb60 hgk0 ⊢
          refine Agg.heldTake (i := 0) (by decide +kernel) rfl rfl rfl (v := .int .i64 (k : Int)) (fun z _ => Agg.run_move rfl rfl) hc0 ?_
          refine Agg.heldTake (i := 1) (by decide +kernel) rfl rfl rfl (v := .int .i64 (q : Int)) (fun z _ => by exact Agg.run_bin rfl rfl rfl rfl (hquo z)) hc0 ?_
          refine Agg.heldTake (i := 2) (by decide +kernel) rfl rfl rfl (v := .int .i64 (k : Int)) (fun z _ => Agg.run_move rfl rfl) hc0 ?_
          refine Agg.heldTake (i := 3) (by decide +kernel) rfl rfl rfl (v := .int .i64 (r : Int)) (fun z _ => by exact Agg.run_bin rfl rfl rfl rfl (hrem z)) hc0 ?_
          refine Agg.heldTake (i := 4) (by decide +kernel) rfl rfl rfl (v := .slice (some ⟨b5, o5, none⟩) 128 c5') (fun z _ => Agg.run_move rfl rfl) hc0 ?_
          refine Agg.heldTake (i := 5) (by decide +kernel) rfl rfl rfl (v := .int .i64 (k : Int)) (fun z _ => Agg.run_move rfl rfl) hc0 ?_
          refine Agg.heldTake (i := 6) (by decide +kernel) rfl rfl rfl (v := .pointer (some ⟨b5, o5 + (k : Int).toNat * 1, none⟩)) (fun z _ => by exact Agg.run_ia ti25 (i := (k : Int)) (by omega) (by omega) rfl rfl rfl) hc0 ?_
          refine Agg.heldTake (i := 7) (by decide +kernel) rfl rfl rfl (v := .int .u8 (c.toNat : Int)) (fun z hz => by exact Agg.run_ld (t := 5) (by decide +kernel) rfl rfl hz) hc0 ?_
          refine Agg.heldTake (i := 8) (by decide +kernel) rfl rfl rfl (v := .pointer (some ⟨e, 0 + (q : Int).toNat * 33, none⟩)) (fun z _ => by exact Agg.run_iaA aiB (i := (q : Int)) (by omega) (by omega) rfl rfl rfl) hc0 ?_
          refine Agg.heldTake (i := 9) (by decide +kernel) rfl rfl rfl (v := .pointer (some ⟨e, 0 + (q : Int).toNat * 33 + 1, none⟩)) (fun z _ => by exact Agg.run_fa fo_Sec_1 rfl rfl) hc0 ?_
          refine Agg.heldTake (i := 10) (by decide +kernel) rfl rfl rfl (v := .pointer (some ⟨e, 0 + (q : Int).toNat * 33 + 1 + (r : Int).toNat * 1, none⟩)) (fun z _ => by exact Agg.run_iaA aiD (i := (r : Int)) (by omega) (by omega) rfl rfl rfl) hc0 ?_
          refine Agg.heldSt (.int .u8 (c.toNat : Int)) [.int .u8 (c.toNat : Int)] hb60 rfl (by kernel_rfl) (by rw [show 0 + (q : Int).toNat * 33 + 1 + (r : Int).toNat * 1 = q * 33 + 1 + r by simp]; exact hfit6) (by simp [Value.oneCell']) (i := 11) (by decide +kernel) rfl rfl rfl rfl rfl rfl (fun z1 hq1 hg1 => ⟨hg1.cell hc0 (by simp; omega), ?_⟩)
          refine Agg.heldDone (by decide +kernel) ?_
          rw [show 0 + (q : Int).toNat * 33 + 1 + (r : Int).toNat * 1 = q * 33 + 1 + r by simp, HSTEP.out] at hq1
          have hgz := grown_trans hgk0 hg1
          simp only [List.set_cons_succ, List.set_cons_zero]
          go_wp2_with fail
          exact ⟨⟨k + 1, by omega, by go_num, hq1, hgz⟩, by simp [intOf]; omega⟩
        · obtain rfl : k = 128 := by omega
          have hm := HBK.out
          rw [outTo_all n b HL128.out] at hm
          have hr := HR.out.grown HGK.out (by omega)
          replace HB := Lib.hid (HB.out.trans (grown_below HGK.out HB.out.size (fun j hj => (by cases hj; exact hsz5))))
          have hml : (blkC (secsOf n b)).length = 132 := by rw [← outTo_all n b HL128.out, blkC_length _ (outTo_len n b 128), outTo_length]
          have h1 := blkC_one (secsOf n b)
          go_wp2_with (first
            | (refine Agg.gLoadB 132 hm hml rfl rfl rfl (by decide +kernel) ?_; simp only [Act.put, List.setIfInBounds_toArray, List.set_cons_succ, List.set_cons_zero])
            | (refine Agg.gStoreB 132 (blkC (secsOf n b)) hr rfl rfl rfl rfl rfl (by decide +kernel) zero132 hml h1 (fun w7 hb7 hg7 => ?_)))
          refine bodyPost_ret (results_row1 (m := 132) rfl hb7 rfl (by decide +kernel) hml) rfl ⟨?_, ?_⟩
          · rw [HBB.out]; rfl
          · exact HB.out.trans (grown_below hg7 HB.out.size (fun j hj => (by cases hj; omega)))
end Go.Proofs.Ytjnnnnolikbjcaa
