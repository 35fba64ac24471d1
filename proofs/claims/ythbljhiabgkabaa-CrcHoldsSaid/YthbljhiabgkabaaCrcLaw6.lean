/-
  THE WALK OF LAYER 15's STATEMENT CrcHolds (crc).
-/
import Derived.Test.YthbljhiabgkabaaCrcLaw2
import Derived.Test.YthbljhiabgkabaaCrcRef2
import Derived.Test.YthbljhiabgkabaaAgg2
namespace Go.Proofs.Ythbljhiabgkabaa
open Go.ChangeShapes Go.WideShapes Go.ChangeAt Go.RowKit Agg

set_option maxHeartbeats 1000000 in
theorem CrcHolds_walk (v : Value) (l : List UInt8) (w : World) (h0 : Bytes w v l) (_ : l.length ≤ maxLen) :
    Calls Try.prog 10 #[v] w fun e w' => e = .returned (.bool true) ∧ Below w.heap.size w w' := by
  have H0 := Lib.hid h0
  obtain ⟨x, cx, rfl, _, _⟩ := h0.shape
  clear h0
  go_enter Try.func10, Try.ntmps10
  go_wp2_with fail
  refine (wakes_any w).mono ?_
  rintro e w1 ⟨rfl, hb1⟩
  have HB1 := Lib.hid hb1
  clear hb1
  go_wp2_with fail
  refine (own_bytes_any l _ w1 (H0.out.keep HB1.out)).mono ?_
  rintro e w2 ⟨g, cap, rfl, ho2, hb2⟩
  have HB2 := Lib.hid (HB1.out.trans (hb2.mono HB1.out.size))
  have hl5 : (l.take 500).length ≤ 500 := by simp; omega
  have hml : min l.length 500 = (l.take 500).length := by simp [Nat.min_comm]
  rw [hml] at ho2 ⊢
  have HY2 := Lib.hid (own_bytes ho2 rfl)
  have HP := Lib.hid hml
  clear hb2 ho2 hml
  obtain ⟨p, hp⟩ : ∃ p, p = l.take 500 := ⟨_, rfl⟩
  rw [← hp] at hl5 HY2 HP ⊢
  have HE := Lib.hid hp
  clear hp
  go_wp2_with fail
  refine (lay_any p _ w2 HY2.out (by omega)).mono ?_
  rintro e w3 ⟨v', rfl, ho3, hb3⟩
  have HB3 := Lib.hid (HB2.out.trans (hb3.mono HB2.out.size))
  have HB23 := Lib.hid hb3
  have hlen : (Crc.lay p).length = p.length + 4 := by simp [Crc.lay, Crc.bytes]
  have HO3 := Lib.hid (own_mono ho3 HB2.out.size)
  have HO23 := Lib.hid ho3
  have HY3 := Lib.hid (own_bytes ho3 hlen)
  obtain ⟨g3, c3, rfl⟩ : ∃ g3 c3, v' = .slice (some ⟨g3, 0, none⟩) (p.length + 4) c3 := by
    rcases ho3.2 with ⟨_, h⟩ | ⟨g, c, cur, h, _⟩
    · omega
    · exact ⟨g, c, h⟩
  clear ho3 hb3
  go_wp2_with fail
  refine (own_bytes_any l _ w3 (H0.out.keep HB3.out)).mono ?_
  rintro e w4 ⟨g4, cap4, rfl, ho4, hb4⟩
  rw [HP.out, ← HE.out] at ho4
  rw [HP.out]
  have HB4 := Lib.hid (HB3.out.trans (hb4.mono HB3.out.size))
  have HO4 := Lib.hid ho4
  have HB34 := Lib.hid hb4
  have HY24 := Lib.hid ((HY2.out.keep HB23.out).keep hb4)
  have HY34 := Lib.hid (HY3.out.keep hb4)
  clear ho4 hb4
  go_wp2_with fail
  refine (rsum_any p _ w4 HY24.out).mono ?_
  rintro e w4' ⟨rfl, rfl⟩
  go_wp2_with fail
  refine (rbytes_any (Crc.sum p) w4).mono ?_
  rintro e w5 ⟨v5, rfl, ho5, hb5⟩
  have HB5 := Lib.hid (HB4.out.trans (hb5.mono HB4.out.size))
  have HB35 := Lib.hid (HB34.out.trans (hb5.mono HB34.out.size))
  have HO45 := Lib.hid (own_keep HO4.out hb5)
  have HY25 := Lib.hid (HY24.out.keep hb5)
  have HY35 := Lib.hid (HY34.out.keep hb5)
  have HS5 := Lib.hid (ownSl ho5)
  obtain ⟨g5, q5, c5, rfl, _, _, _, _⟩ := SlR.pos HS5.out (by decide) (by decide)
  clear ho5 hb5
  have hq1 : p.length + 4 ≤ maxLen := by unfold maxLen; omega
  have hq2 : (p.length + 4) * 1 ≤ 140737488355328 := by omega
  have HQ1 := Lib.hid hq1
  clear hq1
  go_wp2_with (refine Agg.append2 ti25 (.tmp 14) (.tmp 17) rfl rfl w3.heap.size (v := .slice (some ⟨g4, 0, none⟩) p.length cap4) (n := p.length) (xs := bv p) rfl HO45.out (m := 4) (news := bv (Crc.bytes (Crc.sum p))) rfl HS5.out (bv_one _) HQ1.out hq2 HB35.out.size ?_; intro v6 w6 ho6 hgb hwh; simp only [Act.put, List.setIfInBounds_toArray, List.set_cons_succ, List.set_cons_zero])
  have b6 := grown_below hgb HB35.out.size (own_block HO45.out)
  have HB6 := Lib.hid (HB5.out.trans (b6.mono HB3.out.size))
  have HY36 := Lib.hid (HY3.out.keep (HB35.out.trans b6))
  have HB26 := Lib.hid (HB23.out.trans ((HB35.out.trans b6).mono HB23.out.size))
  have HO26 := Lib.hid (own_keep HO23.out (HB35.out.trans b6))
  have HY26 := Lib.hid (HY2.out.keep (HB23.out.trans ((HB35.out.trans b6).mono HB23.out.size)))
  rw [← bv_append] at ho6
  have HY6 := Lib.hid (own_bytes (l := Crc.lay p) ho6 hlen)
  clear ho6 hgb hwh b6
  have HT6 : Hid (decide (Crc.lay p = Crc.lay p) = true) := by show _ = _; simp
  refine (equal_any (Crc.lay p) (Crc.lay p) _ _ w6 HY36.out HY6.out).mono ?_
  rintro e w7 ⟨rfl, hb7⟩
  rw [HT6.out]
  have HB7 := Lib.hid (HB6.out.trans (hb7.mono HB6.out.size))
  have HY27 := Lib.hid (HY26.out.keep hb7)
  have HB27 := Lib.hid (HB26.out.trans (hb7.mono HB26.out.size))
  have HO27 := Lib.hid (own_keep HO26.out hb7)
  clear hb7
  obtain ⟨b, hbb⟩ : ∃ b, b = (decide (4 ≤ p.length) && (Crc.sum p == 0#32)) := ⟨_, rfl⟩
  have HBB := Lib.hid hbb
  clear hbb
  go_wp2_with fail
  refine (holds_any p _ w7 HY27.out b HBB.out).mono ?_
  rintro e w8 ⟨rfl, hb8⟩
  have HB8 := Lib.hid (HB7.out.trans (hb8.mono HB7.out.size))
  have HY28 := Lib.hid (HY27.out.keep hb8)
  have HB28 := Lib.hid (HB27.out.trans (hb8.mono HB27.out.size))
  have HO28 := Lib.hid (own_keep HO27.out hb8)
  clear hb8
  go_wp2_with fail
  refine (rholds_any p _ w8 HY28.out b HBB.out).mono ?_
  rintro e w9 ⟨rfl, hb9⟩
  have HB9 := Lib.hid (HB8.out.trans (hb9.mono HB8.out.size))
  have HY29 := Lib.hid (HY28.out.keep hb9)
  have HB29 := Lib.hid (HB28.out.trans (hb9.mono HB28.out.size))
  have HO29 := Lib.hid (own_keep HO28.out hb9)
  clear hb9
  have hbn : (b != b) = false := by simp
  have hn5 : p.length + 4 ≤ 504 := by omega
  have HLL := Lib.hid hlen
  clear hlen hl5
  generalize hq : Crc.lay p = q at *
  clear hq
  generalize hn : p.length + 4 = n at *
  clear hn
  go_wp2_with fail
  go_loopw [32] (fun i wr => ∃ k : Nat, k ≤ n ∧ i = .int .i64 k ∧ Below w2.heap.size w2 wr ∧ ∃ r : List UInt8, r.length = n ∧ wr.ownsRow w2.heap.size 5 1 (.slice (some ⟨g3, 0, none⟩) n c3) n (bv r)) (fun i _ => n - (intOf i).toNat)
  case atStart => exact ⟨0, by omega, rfl, HB29.out, q, HLL.out, HO29.out⟩
  case round =>
    obtain ⟨k, hk, rfl, hb, r, hr, ho⟩ := hrel
    have HB := Lib.hid hb
    have HO := Lib.hid ho
    have HR := Lib.hid hr
    clear hb ho hr
    by_cases hlt : k < n
    · have hkr : k < r.length := by rw [HR.out]; exact hlt
      have hc := HO.out.cellAt k (by omega)
      rw [bv_get _ _ hkr] at hc
      have hf := HO.out.frozenAt k
      have hcd : wr.cell? ⟨g3, k, none⟩ = some (.int .u8 (r[k].toNat : Int)) := hc
      have hfd : wr.frozen? ⟨g3, k, none⟩ = false := hf
      have hkn : (k : Int) < n := by omega
      have hadd : Hid (((r[k].toNat : Int) + 1) % 256 = ((r[k] + 1).toNat : Int)) := by
        show _ = _
        simp [UInt8.toNat_add]
      have hset : Hid ((bv r).set k (.int .u8 ((r[k] + 1).toNat : Int)) = bv (r.set k (r[k] + 1))) := by
        show _ = _
        simp [bv, List.map_set]
      have hst := Lib.hid (HO.out.stored k (.int .u8 ((r[k] + 1).toNat : Int)))
      clear hc hf
      go_wp2_with fail
      rw [hadd.out]
      have hrow := hst.out.1
      rw [hset.out] at hrow
      refine ⟨⟨k + 1, by omega, by go_num, HB.out.setCell (p := ⟨g3, k, none⟩) (HO.out.lt g3 rfl).1 _, r.set k (r[k] + 1), by simp [HR.out], hrow⟩, by simp [intOf]; omega⟩
    · obtain rfl : k = n := by omega
      clear hlt
      go_wp2_with fail
      refine (own_bytes_any l _ wr (H0.out.keep (HB2.out.trans (HB.out.mono HB2.out.size)))).mono ?_
      rintro e w10 ⟨g6, cap6, rfl, ho10, hb10⟩
      rw [HP.out, ← HE.out] at ho10
      rw [HP.out]
      have HY10 := Lib.hid (own_bytes ho10 rfl)
      have HYP := Lib.hid ((HY2.out.keep HB.out).keep hb10)
      have HB10 := Lib.hid ((HB2.out.trans (HB.out.mono HB2.out.size)).trans (hb10.mono (HB2.out.trans (HB.out.mono HB2.out.size)).size))
      clear ho10 hb10
      go_wp2_with fail
      have HTP : Hid (decide (p = p) = true) := by show _ = _; simp
      refine (equal_any p p _ _ w10 HYP.out HY10.out).mono ?_
      rintro e w11 ⟨rfl, hb11⟩
      rw [HTP.out]
      have HB11 := Lib.hid (HB10.out.trans (hb11.mono HB10.out.size))
      clear hb11
      go_wp2_with fail
      go_ret
      exact ⟨rfl, HB11.out⟩
end Go.Proofs.Ythbljhiabgkabaa
