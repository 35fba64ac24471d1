/-
  THE WALK OF LAYER 15's STATEMENT CrcBurst (crc).
-/
import Derived.Test.YthbljhiabgkabaaCrcLaw2
import Derived.Test.YthbljhiabgkabaaAgg2
namespace Go.Proofs.Ythbljhiabgkabaa
open Go.ChangeShapes Go.WideShapes Go.ChangeAt Go.RowKit Agg

theorem flip_set (r : List UInt8) (p : Nat) (h : p / 8 < r.length) : (bv r).set (p / 8) (.int .u8 ((r[p / 8].toNat ^^^ 128 / 2 ^ (p % 8) : Nat) : Int)) = bv (Crc.flip r p) := by
  unfold bv Crc.flip
  apply List.ext_getElem?
  intro i
  rw [List.getElem?_set]
  by_cases hi : p / 8 = i
  · subst hi
    have e : (r[p / 8] ^^^ UInt8.ofNat (128 / 2 ^ (p % 8))).toNat = r[p / 8].toNat ^^^ 128 / 2 ^ (p % 8) := by
      rw [UInt8.toNat_xor, UInt8.toNat_ofNat']
      congr 1
      apply Nat.mod_eq_of_lt
      exact Nat.lt_of_le_of_lt (Nat.div_le_self _ _) (by decide)
    simp [h, e]
  · simp [hi]
theorem u64_mod_n (z : Int) (m : Nat) (hm : 0 < m) (hm2 : m < 9223372036854775808) : ∃ n : Nat, n < m ∧ wrap64 ((IntKind.u64.wrap z).tmod (IntKind.u64.wrap (m : Int))) = (n : Int) := by
  have h0 : 0 ≤ IntKind.u64.wrap z := by simp [IntKind.wrap, IntKind.bits, IntKind.signed]; omega
  have hw : IntKind.u64.wrap (m : Int) = m := by simp [IntKind.wrap, IntKind.bits, IntKind.signed]; omega
  rw [hw, Int.tmod_eq_emod_of_nonneg h0]
  have h2 : 0 ≤ IntKind.u64.wrap z % (m : Int) := Int.emod_nonneg _ (by omega)
  have h1 : IntKind.u64.wrap z % (m : Int) < m := Int.emod_lt_of_pos _ (by omega)
  refine ⟨(IntKind.u64.wrap z % (m : Int)).toNat, by omega, ?_⟩
  rw [IntWalk.wrap64_in _ (by omega)]; omega

set_option maxHeartbeats 1000000 in
theorem CrcBurst_walk (v : Value) (l : List UInt8) (a1 a2 : Int) (w : World) (h0 : Bytes w v l) (_ : l.length ≤ maxLen) (_ : (Lit.int .i64 a1).wf = true) (h2 : (Lit.int .u32 a2).wf = true) :
    Calls Try.prog 4 #[v, .int .i64 a1, .int .u32 a2] w fun e w' => e = .returned (.bool true) ∧ Below w.heap.size w w' := by
  obtain ⟨t, rfl⟩ := u32_bv h2
  have H0 := Lib.hid h0
  obtain ⟨x, cx, rfl, _, _⟩ := h0.shape
  clear h0 h2
  go_enter Try.func4, Try.ntmps4
  go_wp2_with fail
  refine (wakes_any w).mono ?_
  rintro e w1 ⟨rfl, hb1⟩
  have HB1 := Lib.hid hb1
  clear hb1
  go_wp2_with fail
  refine (own_bytes_any l _ w1 (H0.out.keep HB1.out)).mono ?_
  rintro e w2 ⟨g, cap, rfl, ho2, hb2⟩
  have HB2 := Lib.hid (HB1.out.trans (hb2.mono HB1.out.size))
  have hl5 : (l.take 500).length ≤ 500 := by simp; omega
  have hml : min l.length 500 = (l.take 500).length := by simp [Nat.min_comm]
  rw [hml] at ho2 ⊢
  have HY2 := Lib.hid (own_bytes ho2 rfl)
  clear hb2 ho2 hml
  generalize l.take 500 = p at *
  go_wp2_with fail
  refine (lay_any p _ w2 HY2.out (by omega)).mono ?_
  rintro e w3 ⟨v', rfl, ho3, hb3⟩
  have HB3 := Lib.hid (HB2.out.trans (hb3.mono HB2.out.size))
  have hsum := Lib.hid (Crc.lay_sum p)
  have hlen : (Crc.lay p).length = p.length + 4 := by simp [Crc.lay, Crc.bytes]
  have HO3 := Lib.hid (own_mono ho3 HB2.out.size)
  generalize Crc.lay p = q at *
  obtain ⟨g3, c3, rfl⟩ : ∃ g3 c3, v' = .slice (some ⟨g3, 0, none⟩) (p.length + 4) c3 := by
    rcases ho3.2 with ⟨_, h⟩ | ⟨g, c, cur, h, _⟩
    · omega
    · exact ⟨g, c, h⟩
  have HY3 := Lib.hid (own_bytes HO3.out hlen)
  generalize hn : p.length + 4 = n at *
  have hn4 : 4 ≤ n ∧ n ≤ 504 := by omega
  obtain ⟨hn4, hn504⟩ := hn4
  have HQ := Lib.hid hlen
  clear ho3 hb3 hl5 hn hlen
  go_wp2_with fail
  refine (holds_any q _ w3 HY3.out true (by rw [hsum.out, HQ.out]; simp [hn4])).mono ?_
  rintro e w4 ⟨rfl, hb4⟩
  have HB4 := Lib.hid (HB3.out.trans (hb4.mono HB3.out.size))
  have HY4 := Lib.hid (HY3.out.keep hb4)
  have HO4 := Lib.hid (own_keep HO3.out hb4)
  clear hb4
  go_wp2_with fail
  refine (sum_one q _ _ _ w4 HY4.out (by rw [HQ.out]; unfold maxLen; omega)).mono ?_
  rintro e w5 ⟨rfl, hb5⟩
  have HB5 := Lib.hid (HB4.out.trans (hb5.mono HB4.out.size))
  have HO5 := Lib.hid (own_keep HO4.out hb5)
  clear hb5
  rw [hsum.out]
  by_cases ht : t.toNat = 0
  · have ht' : ((t.toNat : Int) == 0) = true := by simp [ht]
    clear ht
    go_wp2_with fail
    go_ret
    exact ⟨rfl, HB5.out⟩
  · have ht' : ((t.toNat : Int) == 0) = false := by simp; omega
    have HT : Hid (t.toNat ≠ 0) := ht
    clear ht
    obtain ⟨pos, hpos, hpe⟩ := u64_mod_n a1 (8 * n - 31) (by omega) (by omega)
    have hpe2 : wrap64 ((IntKind.u64.wrap a1).tmod (8 * (n : Int) - 31)) = (pos : Int) := by
      rw [← hpe]
      congr 2
      have e1 : ((8 * n - 31 : Nat) : Int) = 8 * (n : Int) - 31 := by omega
      rw [e1]
      simp [IntKind.wrap, IntKind.bits, IntKind.signed]; omega
    have hpos2 : pos + 32 ≤ 8 * n := by omega
    clear hpe hpos
    have HNOT := Lib.hid (fun h => Crc.burst_not q pos t.toNat t.isLt HT.out (by rw [HQ.out]; exact hpos2) h)
    go_wp2_with fail
    rw [hpe2]
    clear hpe2
    go_loopw [34] (fun i wr => ∃ k : Nat, k ≤ 32 ∧ i = .int .i64 k ∧ Below w.heap.size w wr ∧ wr.ownsRow w.heap.size 5 1 (.slice (some ⟨g3, 0, none⟩) n c3) n (bv (Crc.burst q pos t.toNat k))) (fun i _ => 32 - (intOf i).toNat)
    case atStart => exact ⟨0, by omega, rfl, HB5.out, HO5.out⟩
    case round =>
      obtain ⟨k, hk, rfl, hb, ho⟩ := hrel
      have HB := Lib.hid hb
      have HO := Lib.hid ho
      clear hb ho
      by_cases hlt : k < 32
      · have hba := bit_and t (31 - k)
        have htl := t.isLt
        have hgl : t.getLsbD (31 - k) = decide (t.toNat / 2 ^ (31 - k) % 2 = 1) := by rw [BitVec.getLsbD, Nat.testBit_eq_decide_div_mod_eq]
        by_cases hbit : t.toNat / 2 ^ (31 - k) % 2 = 1
        · rw [hgl] at hba
          simp only [hbit, decide_true, if_true] at hba
          have HS : Hid (Crc.burst q pos t.toNat (k + 1) = Crc.flip (Crc.burst q pos t.toNat k) (pos + k)) := by
            show _ = _
            rw [Crc.burst, if_pos hbit]
          clear hgl hbit
          have hbl : (Crc.burst q pos t.toNat k).length = n := by rw [Crc.burst_length, HQ.out]
          generalize Crc.burst q pos t.toNat k = r at *
          have hj : (pos + k) / 8 < n := by omega
          have hjr : (pos + k) / 8 < r.length := by rw [hbl]; exact hj
          have hc := HO.out.cellAt ((pos + k) / 8) (by omega)
          rw [bv_get _ _ hjr] at hc
          have hf := HO.out.frozenAt ((pos + k) / 8)
          have had : 0 + (((pos + k) / 8 : Nat) : Int).toNat * 1 = (pos + k) / 8 := by omega
          have hcd : wr.drew.cell? ⟨g3, 0 + (((pos + k) / 8 : Nat) : Int).toNat * 1, none⟩ = some (.int .u8 (r[(pos + k) / 8].toNat : Int)) := by rw [had]; exact hc
          have hfd : wr.drew.frozen? ⟨g3, (pos + k) / 8, none⟩ = false := hf
          have hcd2 : wr.drew.cell? ⟨g3, (pos + k) / 8, none⟩ = some (.int .u8 (r[(pos + k) / 8].toNat : Int)) := hc
          have hset := Lib.hid (flip_set r (pos + k) hjr)
          have hst := Lib.hid (HO.out.stored ((pos + k) / 8) (.int .u8 ((r[(pos + k) / 8].toNat ^^^ 128 / 2 ^ ((pos + k) % 8) : Nat) : Int)))
          have hx : bits .xor .u8 (r[(pos + k) / 8].toNat : Int) ((128 / 2 ^ ((pos + k) % 8) : Nat) : Int) = ((r[(pos + k) / 8].toNat ^^^ 128 / 2 ^ ((pos + k) % 8) : Nat) : Int) :=
            bits_xor .u8 _ _ rfl (r[(pos + k) / 8].toNat_lt) (Nat.lt_of_le_of_lt (Nat.div_le_self _ _) (by decide))
          go_wp2_with fail
          refine Agg.stillTail 14 (by kernel_rfl) (by kernel_rfl) (fun K hK => ?_)
          simp only [List.take_succ_cons, List.take_zero]
          refine Agg.stMove rfl (Agg.wn rfl) rfl ?_; simp only [Agg.ev, List.getD_cons_zero, List.getD_cons_succ, List.set_cons_succ, List.set_cons_zero]
          refine Agg.stMove rfl (Agg.wn rfl) rfl ?_; simp only [Agg.ev, List.getD_cons_zero, List.getD_cons_succ, List.set_cons_succ, List.set_cons_zero]
          refine Agg.stMove rfl (Agg.wn rfl) rfl ?_; simp only [Agg.ev, List.getD_cons_zero, List.getD_cons_succ, List.set_cons_succ, List.set_cons_zero]
          refine Agg.stAdd rfl (Agg.wn rfl) rfl rfl rfl (by omega) (by omega) ?_; simp only [List.set_cons_succ, List.set_cons_zero]
          refine Agg.stBin rfl (Agg.wn rfl) rfl rfl rfl rfl (run_quo 3 (pos + k) 8 (by omega) (by omega) _) ?_; simp only [List.set_cons_succ, List.set_cons_zero]
          refine Agg.stIdx ti25 rfl (Agg.wn rfl) rfl rfl rfl (by omega) (by omega) ?_; simp only [List.set_cons_succ, List.set_cons_zero]
          refine Agg.stLoad rfl (Agg.wn rfl) rfl rfl rfl hcd ?_; simp only [List.set_cons_succ, List.set_cons_zero]
          refine Agg.stMove rfl (Agg.wn rfl) rfl ?_; simp only [Agg.ev, List.getD_cons_zero, List.getD_cons_succ, List.set_cons_succ, List.set_cons_zero]
          refine Agg.stMove rfl (Agg.wn rfl) rfl ?_; simp only [Agg.ev, List.getD_cons_zero, List.getD_cons_succ, List.set_cons_succ, List.set_cons_zero]
          refine Agg.stAdd rfl (Agg.wn rfl) rfl rfl rfl (by omega) (by omega) ?_; simp only [List.set_cons_succ, List.set_cons_zero]
          refine Agg.stBin rfl (Agg.wn rfl) rfl rfl rfl rfl (run_rem 3 (pos + k) 8 (by omega) _) ?_; simp only [List.set_cons_succ, List.set_cons_zero]
          refine Agg.stBin rfl (Agg.wn rfl) rfl rfl rfl rfl (run_shr_u8 5 128 ((pos + k) % 8) (by omega) _) ?_; simp only [List.set_cons_succ, List.set_cons_zero]
          refine Agg.stBin rfl (Agg.wn rfl) rfl rfl rfl rfl (run_xor_u8 5 _ _ _ hx _) ?_; simp only [List.set_cons_succ, List.set_cons_zero]
          refine Agg.stIdx ti25 rfl (Agg.wn rfl) rfl rfl rfl (by omega) (by omega) ?_; simp only [List.set_cons_succ, List.set_cons_zero]
          refine wpStill_nil (hK _ ?_)
          clear hK K
          simp only [List.drop_succ_cons, List.drop_zero, had]
          clear hcd had hc hf hx
          go_wp2_with fail
          have hrow : (wr.setCell ⟨g3, (pos + k) / 8, none⟩ (.int .u8 ((r[(pos + k) / 8].toNat ^^^ 128 / 2 ^ ((pos + k) % 8) : Nat) : Int))).ownsRow w.heap.size 5 1 (.slice (some ⟨g3, 0, none⟩) n c3) n (bv (Crc.burst q pos t.toNat (k + 1))) := by
            have h1 := hst.out.1
            rw [hset.out, ← HS.out] at h1
            exact h1
          refine ⟨⟨k + 1, by omega, by go_num, ?_, hrow⟩, by simp [intOf]; omega⟩
          exact (HB.out.setCell (p := ⟨g3, (pos + k) / 8, none⟩) (HO.out.lt g3 rfl).1 _).drew
        · rw [hgl] at hba
          simp only [hbit, decide_false, Bool.false_eq_true, if_false] at hba
          have HS : Hid (Crc.burst q pos t.toNat (k + 1) = Crc.burst q pos t.toNat k) := by
            show _ = _
            rw [Crc.burst, if_neg hbit]
          clear hgl hbit
          go_wp2_with fail
          go_roundw
          case rel => exact ⟨k + 1, by omega, by go_num, HB.out, by rw [HS.out]; exact HO.out⟩
          case measure => simp [intOf]; omega
      · obtain rfl : k = 32 := by omega
        have hbl : (Crc.burst q pos t.toNat 32).length = n := by rw [Crc.burst_length, HQ.out]
        have HYE := Lib.hid (own_bytes HO.out hbl)
        have HBL := Lib.hid hbl
        clear hbl
        go_wp2_with fail
        refine (holds_any (Crc.burst q pos t.toNat 32) _ wr HYE.out false ?_).mono ?_
        · rw [beq_false_of_ne (HNOT.out hsum.out)]; simp
        rintro e w6 ⟨rfl, hb6⟩
        have HB6 := Lib.hid (HB.out.trans (hb6.mono HB.out.size))
        clear hb6
        go_wp2_with fail
        go_ret
        exact ⟨rfl, HB6.out⟩
end Go.Proofs.Ythbljhiabgkabaa
