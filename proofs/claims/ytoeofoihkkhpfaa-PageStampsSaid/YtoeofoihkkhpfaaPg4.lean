/-
  PAGES: the document's Same; a block's stamp, and its bytes.
-/
import Derived.Test.YtoeofoihkkhpfaaPg3
import Derived.Test.YtoeofoihkkhpfaaGood2
import Derived.Deep.Cut
namespace Go.Proofs.Ytoeofoihkkhpfaa
open Go.ChangeShapes Go.WideShapes Go.ChangeAt Go.RowKit Agg Pg

set_option maxHeartbeats 1000000 in
theorem rSame_any (k1 k2 : Int) (l m : List UInt8) (u v : Value) (w : World) (hu : Bytes w u l) (hv : Bytes w v m) (r : Bool) (hr : decide (k1 = k2 ∧ l = m) = r) :
    Calls Try.prog 15 #[.agg #[.int .i64 k1, u], .agg #[.int .i64 k2, v]] w fun e w' => e = .returned (.bool r) ∧ Below w.heap.size w w' := by
  have HU := Lib.hid hu
  have HV := Lib.hid hv
  obtain ⟨x, cap, rfl, _, hcx⟩ := SlR.shape hu
  obtain ⟨y, dap, rfl, _, hcy⟩ := SlR.shape hv
  unfold maxLen at hcx hcy
  clear hu hv
  by_cases hk : k1 = k2
  · subst hk
    have hb : (k1 != k1) = false := by simp
    by_cases hlen : l.length = m.length
    · have HR : Hid (decide (l = m) = r) := by show _ = _; rw [← hr]; simp
      have HM := Lib.hid hlen.symm
      rw [← hlen]
      have HV2 : Hid (SlR w (.slice y l.length dap) 1 l.length (bv m)) := by
        show SlR _ _ _ _ _
        rw [hlen]; exact HV.out
      have hne : ((l.length : Int) != l.length) = false := by simp
      clear hr hlen HV
      have HB := Lib.hid (Below.refl w.heap.size w)
      go_enter Try.func15, Try.ntmps15
      go_wp2_with fail
      refine Agg.wp_at fun w1 hw1 => ?_
      have hb : Below w.heap.size w w1 := by rw [hw1.out]; repeat (first | exact Below.refl _ _ | refine Agg.bel_drew ?_ | refine Agg.bel_alloc ?_ _)
      replace HB := Lib.hid (HB.out.trans (hb.mono HB.out.size))
      replace HU := Lib.hid (HU.out.keep hb)
      replace HV2 := Lib.hid (HV2.out.keep hb)
      clear hb
      have H2 : Hid (Blk w1 w.heap.size 24 [.int .i64 k1, .slice x l.length cap]) := by show Blk _ _ _ _; rw [hw1.out]; exact (Blk.new w 24 #[.int .i64 k1, .slice x l.length cap]).al _
      have H3 : Hid (Blk w1 (w.heap.size + 1) 24 [.int .i64 k1, .slice y l.length dap]) := by show Blk _ _ _ _; rw [hw1.out]; exact Blk.newAt (w.alloc _) 24 #[.int .i64 k1, .slice y l.length dap] _ (by simp)
      clear hw1
      go_loopw [5] (fun i wr => ∃ k : Nat, k ≤ l.length ∧ i = .int .i64 k ∧ Below w1.heap.size w1 wr ∧ l.take k = m.take k) (fun i _ => l.length - (intOf i).toNat)
      case atStart => exact ⟨0, by omega, rfl, Below.refl _ _, by simp⟩
      case round =>
        obtain ⟨k, hk, rfl, hb, htk⟩ := hrel
        have HT := Lib.hid htk
        have HK : Hid (From w1 wr) := Lib.hid hb
        have hb := hb
        replace HB := Lib.hid (HB.out.trans (hb.mono HB.out.size))
        replace HU := Lib.hid (HU.out.keep hb)
        replace HV2 := Lib.hid (HV2.out.keep hb)
        replace H2 := Lib.hid (H2.out.keep hb)
        replace H3 := Lib.hid (H3.out.keep hb)
        clear hb
        clear htk
        by_cases hlt : k < l.length
        · have hl2 : k < m.length := by rw [HM.out]; exact hlt
          obtain ⟨b, o, cap', hve, _, _, hcs, hbl⟩ := SlR.pos HU.out (by decide) (by omega)
          simp only [Value.slice.injEq, true_and] at hve
          obtain ⟨rfl, rfl⟩ := hve
          obtain ⟨b2, o2, cap2, hve2, _, _, hcs2, hbl2⟩ := SlR.pos HV2.out (by decide) (by omega)
          simp only [Value.slice.injEq, true_and] at hve2
          obtain ⟨rfl, rfl⟩ := hve2
          have hc1 : wr.cell? ⟨b, o + (k : Int).toNat * 1, none⟩ = some (.int .u8 (l[k].toNat : Int)) := by
            have := hcs k _ (bv_get l k hlt)
            simpa using this
          have hc2 : wr.cell? ⟨b2, o2 + (k : Int).toNat * 1, none⟩ = some (.int .u8 (m[k].toNat : Int)) := by
            have := hcs2 k _ (bv_get m k hl2)
            simpa using this
          have HS1 := Lib.hid (List.take_succ_eq_append_getElem hlt)
          have HS2 := Lib.hid (List.take_succ_eq_append_getElem hl2)
          have HG : Hid (l[k] = m[k] ∨ l ≠ m) := by
            by_cases h : l[k] = m[k]
            · exact .inl h
            · exact .inr (fun e => h (by simp [e]))
          clear hcs hcs2 hbl hbl2
          generalize l[k] = c at *
          generalize m[k] = d at *
          have hq : ((c.toNat : Int) != (d.toNat : Int)) = decide (c ≠ d) := by
            by_cases h : c = d
            · subst h; simp
            · have : ¬ (c.toNat : Int) = d.toNat := fun e => h (UInt8.toNat_inj.1 (by omega))
              simp [h, this]
          have xH2_0 := H2.out.cell 0
          have xH2_1 := H2.out.cell 1
          have lH2 := H2.out.lt
          simp only [List.getElem?_cons_zero, List.getElem?_cons_succ] at xH2_0 xH2_1
          go_upto_region 6 with (fail)
          clear xH2_0 xH2_1 lH2
          refine Agg.chainR 11 (by kernel_rfl) (by kernel_rfl) ?_
          simp only [List.take_succ_cons, List.take_zero, List.drop_succ_cons, List.drop_zero]
          refine Agg.chFA (by first | exact fo_Page_1 | exact fo_Sec_1) rfl rfl rfl rfl ?_
          refine Agg.chLoadB H2.out (by decide +kernel) rfl rfl (by rfl) rfl rfl ?_
          refine Agg.chMove rfl rfl rfl rfl ?_
          refine Agg.chIA ti25 (by omega) (by omega) rfl rfl rfl rfl rfl ?_
          refine Agg.chLoad rfl rfl rfl rfl (by decide +kernel) hc1 ?_
          refine Agg.chFA (by first | exact fo_Page_1 | exact fo_Sec_1) rfl rfl rfl rfl ?_
          refine Agg.chLoadB H3.out (by decide +kernel) rfl rfl (by rfl) rfl rfl ?_
          refine Agg.chMove rfl rfl rfl rfl ?_
          refine Agg.chIA ti25 (by omega) (by omega) rfl rfl rfl rfl rfl ?_
          refine Agg.chLoad rfl rfl rfl rfl (by decide +kernel) hc2 ?_
          refine Agg.chNe (decide (c ≠ d)) hq rfl rfl rfl rfl rfl ?_
          refine Agg.chEnd ?_
          intro vs w11 hb _
          refine Agg.wpNil ?_
          simp only [List.reverse, List.reverseAux, Agg.fill, List.set_cons_succ, List.set_cons_zero]
          replace HB := Lib.hid (HB.out.trans (hb.mono HB.out.size))
          replace HU := Lib.hid (HU.out.keep hb)
          replace HV2 := Lib.hid (HV2.out.keep hb)
          replace H2 := Lib.hid (H2.out.keep hb)
          replace H3 := Lib.hid (H3.out.keep hb)
          replace HK := Lib.hid (HK.out.keep hb)
          clear hb
          clear hc1 hc2 hq
          by_cases hcd : c = d
          · have hd : decide (c ≠ d) = false := by simp [hcd]
            rw [hd]
            go_wp2_with fail
            go_roundw
            case rel => exact ⟨k + 1, by omega, by go_num, HK.out, by rw [HS1.out, HS2.out, HT.out, hcd]⟩
            case measure => simp [intOf]; omega
          · have hd : decide (c ≠ d) = true := by simp [hcd]
            have HF : Hid (r = false) := by show _ = _; rw [← HR.out]; exact decide_eq_false (HG.out.resolve_left hcd)
            rw [hd]
            clear hcd hd
            go_wp2_with fail
            go_ret
            exact ⟨by rw [HF.out]; rfl, HB.out⟩
        · obtain rfl : k = l.length := by omega
          have HF : Hid (r = true) := by
            show _ = _
            rw [← HR.out]
            have h1 := HT.out
            rw [List.take_of_length_le (Nat.le_refl _), List.take_of_length_le (by rw [HM.out]; exact Nat.le_refl _)] at h1
            simp [h1]
          have xH2_0 := H2.out.cell 0
          have xH2_1 := H2.out.cell 1
          have lH2 := H2.out.lt
          simp only [List.getElem?_cons_zero, List.getElem?_cons_succ] at xH2_0 xH2_1
          go_wp2_with fail
          go_ret
          exact ⟨by rw [HF.out]; rfl, HB.out⟩
    · have HR : Hid (r = false) := by
        show _ = _
        rw [← hr]
        have : ¬ l = m := fun e => hlen (by rw [e])
        simp [this]
      have hne : ((l.length : Int) != m.length) = true := by
        have : ¬ (l.length : Int) = m.length := by omega
        simpa using this
      clear hr hlen
      have HB := Lib.hid (Below.refl w.heap.size w)
      go_enter Try.func15, Try.ntmps15
      go_wp2_with fail
      go_ret
      exact ⟨by rw [HR.out]; rfl, bel_alloc (bel_alloc HB.out _) _⟩
  · have HR : Hid (r = false) := by show _ = _; rw [← hr]; simp [hk]
    have hb : (k1 != k2) = true := by simpa using hk
    clear hr
    have HB := Lib.hid (Below.refl w.heap.size w)
    go_enter Try.func15, Try.ntmps15
    go_wp2_with fail
    go_ret
    exact ⟨by rw [HR.out]; rfl, bel_alloc (bel_alloc HB.out _) _⟩
theorem aiB : AI Try.prog 36 34 4 33 := ⟨by kernel_rfl, by kernel_rfl⟩
theorem aiD : AI Try.prog 32 5 32 1 := ⟨by kernel_rfl, by kernel_rfl⟩
/-- the closure of Stamp: is a sector's stamp the first one? -/
theorem clos_any (s : Sec) (_h : s.2.length = 32) (g n : Nat) (w : World) (hg : Blk w g 25 [.int .u64 (n : Int)]) (r : Bool) (hr : (s.1 == n) = r) :
    Calls Try.prog 38 #[.agg (secC s).toArray, .pointer (some ⟨g, 0, none⟩)] w fun e w' => e = .returned (.bool r) ∧ Below w.heap.size w w' := by
  have HG := Lib.hid hg
  have hb : ((s.1 : Int) == (n : Int)) = r := by
    rw [← hr, Bool.eq_iff_iff]
    simp only [beq_iff_eq]; omega
  have hc := (hg.al (.cells (secC s).toArray 34)).cell 0
  have hx : (w.alloc (.cells (secC s).toArray 34)).cell? ⟨w.heap.size, 0, none⟩ = some (.int .u64 (s.1 : Int)) := by
    rw [(Blk.new w 34 (secC s).toArray).cell 0]; rfl
  simp only [List.getElem?_cons_zero] at hc
  have hg1 := hg.lt
  clear hg hr
  have HB := Lib.hid (Below.refl w.heap.size w)
  go_enter Try.func38, Try.ntmps38
  go_wp2_with fail
  go_ret
  exact ⟨by rw [← hb]; rfl, bel_alloc HB.out _⟩
end Go.Proofs.Ytoeofoihkkhpfaa
