/-
  FILES: the document's Blocks.
-/
import Derived.Test.YtgfmpkcgkjpgnaaFiW
import Derived.Test.YtgfmpkcgkjpgnaaFdDvI
namespace Go.Proofs.Ytgfmpkcgkjpgnaa
open Go.ChangeShapes Go.WideShapes Go.ChangeAt Go.RowKit Agg Pg Dv Fi
attribute [local go_sem] Oper.semAt_some

/-- a file's blocks -/
def blkL (kind : Int) (n : Nat) (B : List UInt8) (m : Nat) : List (List Sec) := (List.range m).map fun i => layB kind (partB B i) (n + i)
theorem blkL_length (kind : Int) (n : Nat) (B : List UInt8) (m : Nat) : (blkL kind n B m).length = m := by simp [blkL]
theorem blkL_succ (kind : Int) (n : Nat) (B : List UInt8) (m : Nat) : blkL kind n B (m + 1) = blkL kind n B m ++ [layB kind (partB B m) (n + m)] := by
  unfold blkL; rw [List.range_succ, List.map_append]; rfl
theorem blkL_at (kind : Int) (n : Nat) (B : List UInt8) (m i : Nat) (h : i < m) : (blkL kind n B m)[i]'(by rw [blkL_length]; exact h) = layB kind (partB B i) (n + i) := by simp [blkL]
theorem build_page' (k : Int) (x : Option Addr) (n m : Nat) (w : World) : (Instr.build 101 #[(0, .int .i64 k), (1, .slice x n m)]).run Try.prog w = .ok (.agg #[.int .i64 k, .slice x n m]) w := by cases x <;> simp [go_sem]
theorem partB_rest (B : List UInt8) (k : Nat) : (B.drop (120 * k)).take 120 = partB B k := by unfold partB; rw [Nat.mul_comm]
theorem rest_next (B : List UInt8) (k m : Nat) (h : m = min 120 (B.length - 120 * k)) : (B.drop (120 * k)).drop m = B.drop (120 * (k + 1)) := by
  rw [List.drop_drop]
  by_cases h2 : 120 ≤ B.length - 120 * k
  · congr 1; omega
  · rw [List.drop_eq_nil_of_le (by omega), List.drop_eq_nil_of_le (by omega)]
theorem part_take (B : List UInt8) (k m : Nat) (h : m = min 120 (B.length - 120 * k)) : (B.drop (120 * k)).take m = partB B k := by
  rw [← partB_rest, h, List.take_eq_take_min (i := 120), List.length_drop]
theorem lit_blk (b : List Sec) (hb : BOk b) (w : World) : (Instr.buildSlice 43 1 #[(0, .agg (blkC b).toArray)]).run Try.prog w = .ok (.slice (some ⟨w.heap.size, 0, none⟩) 1 1) (w.alloc (.cells (blkC b).toArray 64)) := by
  have h := run_buildRows tiBl [blkC b] (by simpa using bok_cells hb) (by simp) (by simp) w
  simpa using h
set_option maxHeartbeats 4000000 in
set_option maxRecDepth 100000 in
theorem rBlocks_any (kind : Int) (n : Nat) (B : List UInt8) (vb : Value) (m : Nat) (w : World) (hB : Bytes w vb B) (hk : kind = 3 ∨ kind = 4) (hbl : B.length ≤ 1000000) (hm : (m : Int) = needN B.length) (hn : n + m < 18446744073709551616) :
    Calls Try.prog 40 #[.int .i64 kind, .int .u64 (n : Int), vb] w fun e w' => ∃ u, e = .returned u ∧ w'.ownsRow w.heap.size 64 132 u m ((blkL kind n B m).flatMap blkC) ∧ Below w.heap.size w w' := by
  obtain ⟨bx, bc, rfl, _, _⟩ := SlR.shape hB
  have HB0 := Lib.hid hB
  have hms : B.length ≤ 120 * m ∧ ∀ k, k < m → 120 * k < B.length := by
    unfold needN at hm
    split at hm
    · exact ⟨by omega, fun k hk => by omega⟩
    · exact ⟨by omega, fun k hk => by omega⟩
  obtain ⟨hm1, hm2⟩ := hms
  have hm4 : m ≤ 10000 := by
    by_cases h : m = 0
    · omega
    · have := hm2 (m - 1) (by omega); omega
  have HM2 := Lib.hid hm2
  have HP1 : Hid (∀ i, pageP kind (partB B i)) := Lib.hid fun i => ⟨by omega, by omega, partB_len B i⟩
  clear hB hm hm2 hk
  have HB := Lib.hid (Below.refl w.heap.size w)
  go_enter Try.func40, Try.ntmps40
  go_wp2_with fail
  go_loopw [7, 2, 1] (fun s7 s2 s1 wr => ∃ (k : Nat) (y : Option Addr) (c : Nat), k ≤ m ∧ s1 = .int .u64 ((n + k : Nat) : Int) ∧ s2 = .slice y (B.drop (120 * k)).length c ∧ Bytes w s2 (B.drop (120 * k)) ∧ wr.ownsRow w.heap.size 64 132 s7 k ((blkL kind n B k).flatMap blkC) ∧ Below w.heap.size w wr) (fun _ s2 _ _ => match s2 with | .slice _ l _ => l | _ => 0)
  case atStart => exact ⟨0, bx, bc, by omega, rfl, rfl, by simpa using HB0.out, World.ownsRow_nil _ _ _ _, HB.out⟩
  case round =>
    obtain ⟨k, y, c, hk, rfl, rfl, hbr, ho, hb⟩ := hrel
    have HBR := Lib.hid hbr
    have HO := Lib.hid ho
    have HB := Lib.hid hb
    obtain ⟨xo, co, rfl, _, _⟩ := (ownSl ho).shape
    obtain ⟨_, _, ec, hc1, _⟩ := SlR.shape hbr
    cases ec
    clear hbr ho hb
    obtain ⟨wA, hwA⟩ : ∃ x, x = wr := ⟨_, rfl⟩
    subst hwA
    have hlen : (B.drop (120 * k)).length = B.length - 120 * k := List.length_drop ..
    obtain ⟨R, hR⟩ : ∃ R, B.drop (120 * k) = R := ⟨_, rfl⟩
    have HRE := Lib.hid hR
    rw [hR] at HBR hc1 hlen ⊢
    by_cases hlt : k < m
    · have hpos : 120 * k < B.length := HM2.out k hlt
      have hr0 : ((R.length : Nat) : Int) > 0 := by omega
      obtain ⟨mm, hmm⟩ : ∃ mm, mm = min 120 (B.length - 120 * k) := ⟨_, rfl⟩
      have hpt := part_take B k mm hmm
      have hrn := rest_next B k mm hmm
      rw [hR] at hpt hrn
      have hmr : mm ≤ R.length := by omega
      have hm0 : 0 < mm := by omega
      have HHD : Hid (Bytes wA (.slice y mm c) (partB B k)) := Lib.hid (by have h := bytes_head HBR.out mm hmr; rw [hpt] at h; exact SlR.keep h HB.out)
      obtain ⟨y3, c3, hsl, hr3⟩ := Agg.slR_rest ti25 (by decide) (show SlR w (.slice y R.length c) 1 R.length (bv R) from HBR.out) mm hmr
      have hdl : (B.drop (120 * (k + 1))).length = R.length - mm := by rw [← hrn, List.length_drop]
      have HRS : Hid (Bytes w (.slice y3 (B.drop (120 * (k + 1))).length c3) (B.drop (120 * (k + 1)))) := Lib.hid (by
        show SlR _ _ 1 _ _
        rw [hdl]
        have e : bv (B.drop (120 * (k + 1))) = (bv R).drop (mm * 1) := by rw [← hrn, Nat.mul_one]; unfold bv; rw [List.map_drop]
        rw [e]; exact hr3)
      rw [← hdl] at hsl
      have HSL := Lib.hid hsl
      have HBS := Lib.hid (blkL_succ kind n B k)
      have hbok := lay_bok kind (partB B k) (n + k) (partB_len B k) (by omega)
      have hly := fun W (v : Value) (hv : Bytes W v (partB B k)) => rLay_any kind (partB B k) (n + k) v W hv (HP1.out k)
      obtain ⟨bl, hbl2⟩ : ∃ y, layB kind (partB B k) (n + k) = y := ⟨_, rfl⟩
      rw [hbl2] at hbok hly HBS
      have hlt2 : (B.drop (120 * (k + 1))).length < R.length := by omega
      obtain ⟨rl, hrl⟩ : ∃ q, (B.drop (120 * (k + 1))).length = q := ⟨_, rfl⟩
      have HRL := Lib.hid hrl
      rw [hrl] at hlt2 HRS HSL
      have H132 := Lib.hid (bok_cells hbok)
      have HONE := Lib.hid (blkC_one bl)
      have hadd : IntKind.u64.wrap (((n + k : Nat) : Int) + 1) = ((n + (k + 1) : Nat) : Int) := by rw [u64_small (by omega) (by omega)]; omega
      obtain ⟨nk, hnk⟩ : ∃ q, n + k = q := ⟨_, rfl⟩
      rw [hnk] at hadd hly
      rw [hnk]
      clear hnk
      have hcm : mm ≤ c := by omega
      have HLT2 := Lib.hid hlt2
      have HADD := Lib.hid hadd
      have HLY := Lib.hid hly
      have HLIT := Lib.hid (fun W => lit_blk bl hbok W)
      clear hpt hrn hr3 hsl hdl hly hbl2 hR hrl HBR hlt2 hadd
      by_cases h120 : ((R.length : Nat) : Int) > 120
      · obtain rfl : mm = 120 := by omega
        clear hlen hmm hpos hmr hm0
        have hsu := Lib.hid (fun W : World => run_slice_upto ti25 y R.length c 120 hcm W)
        go_wp2_with (first
          | (refine Agg.gSliceUp (.slice y 120 c) rfl rfl rfl rfl hsu.out ?_; simp only [Act.put, List.setIfInBounds_toArray, List.set_cons_succ, List.set_cons_zero]))
        refine (HLY.out wA _ HHD.out).mono ?_
        rintro e w21 ⟨rfl, hb⟩
        replace HB := Lib.hid (HB.out.trans (hb.mono HB.out.size))
        replace HHD := Lib.hid (HHD.out.keep hb)
        replace HO := Lib.hid (HO.out.keep hb)
        clear hb
        have hfl : Hid (((blkL kind n B k).flatMap blkC ++ blkC bl) = (blkL kind n B (k + 1)).flatMap blkC) := Lib.hid (by rw [HBS.out, List.flatMap_append]; simp)
        have hbX : Below w21.heap.size w21 (w21.alloc (.cells (blkC bl).toArray 64)) := (Below.refl _ _).alloc (Nat.le_refl _) _
        have hoX := Lib.hid (own_keep HO.out hbX)
        have hsX : Hid (SlR (w21.alloc (.cells (blkC bl).toArray 64)) (.slice (some ⟨w21.heap.size, 0, none⟩) 1 1) 132 1 (blkC bl)) := Lib.hid (NewSl.sl (sz := 132) (b0 := 0) (e := 64) (cs := blkC bl) ⟨_, rfl, Nat.zero_le _, Blk.new w21 64 (blkC bl).toArray⟩ (by rw [H132.out]) (by unfold maxLen; decide))
        have hlw : w.heap.size ≤ (w21.alloc (.cells (blkC bl).toArray 64)).heap.size := Nat.le_trans HB.out.size hbX.size
        go_wp2_with (first
          | (refine Agg.gLit1 (blkC bl) rfl rfl rfl (fun W => HLIT.out W) ?_; simp only [Act.put, List.setIfInBounds_toArray, List.set_cons_succ, List.set_cons_zero])
          | (refine Agg.append2 tiBl (.tmp 16) (.tmp 24) rfl rfl w.heap.size (v := .slice xo k co) rfl hoX.out rfl hsX.out HONE.out (by unfold maxLen; omega) (by omega) hlw (fun v2 w4 hC4 hg4 hwh => ?_); simp only [Act.put, List.setIfInBounds_toArray, List.set_cons_succ, List.set_cons_zero])
          | (refine Agg.gSliceFrom (.slice y3 rl c3) rfl rfl rfl rfl HSL.out ?_; simp only [Act.put, List.setIfInBounds_toArray, List.set_cons_succ, List.set_cons_zero]))
        rw [hfl.out] at hC4
        have hbW := HB.out.trans (hbX.mono HB.out.size)
        have hb4 := hbW.trans (grown_below hg4 hlw (own_block hoX.out))
        exact ⟨⟨k + 1, y3, c3, by omega, by rw [← HADD.out], by rw [HRL.out], HRS.out, hC4, hb4⟩, by show rl < R.length; exact HLT2.out⟩
      · obtain rfl : mm = R.length := by omega
        clear hlen hmm hpos hmr hm0
        have hsu := Lib.hid (fun W : World => run_slice_upto ti25 y R.length c R.length hcm W)
        go_wp2_with (first
          | (refine Agg.gSliceUp (.slice y R.length c) rfl rfl rfl rfl hsu.out ?_; simp only [Act.put, List.setIfInBounds_toArray, List.set_cons_succ, List.set_cons_zero]))
        refine (HLY.out wA _ HHD.out).mono ?_
        rintro e w22 ⟨rfl, hb⟩
        replace HB := Lib.hid (HB.out.trans (hb.mono HB.out.size))
        replace HHD := Lib.hid (HHD.out.keep hb)
        replace HO := Lib.hid (HO.out.keep hb)
        clear hb
        have hfl : Hid (((blkL kind n B k).flatMap blkC ++ blkC bl) = (blkL kind n B (k + 1)).flatMap blkC) := Lib.hid (by rw [HBS.out, List.flatMap_append]; simp)
        have hbX : Below w22.heap.size w22 (w22.alloc (.cells (blkC bl).toArray 64)) := (Below.refl _ _).alloc (Nat.le_refl _) _
        have hoX := Lib.hid (own_keep HO.out hbX)
        have hsX : Hid (SlR (w22.alloc (.cells (blkC bl).toArray 64)) (.slice (some ⟨w22.heap.size, 0, none⟩) 1 1) 132 1 (blkC bl)) := Lib.hid (NewSl.sl (sz := 132) (b0 := 0) (e := 64) (cs := blkC bl) ⟨_, rfl, Nat.zero_le _, Blk.new w22 64 (blkC bl).toArray⟩ (by rw [H132.out]) (by unfold maxLen; decide))
        have hlw : w.heap.size ≤ (w22.alloc (.cells (blkC bl).toArray 64)).heap.size := Nat.le_trans HB.out.size hbX.size
        go_wp2_with (first
          | (refine Agg.gLit1 (blkC bl) rfl rfl rfl (fun W => HLIT.out W) ?_; simp only [Act.put, List.setIfInBounds_toArray, List.set_cons_succ, List.set_cons_zero])
          | (refine Agg.append2 tiBl (.tmp 16) (.tmp 24) rfl rfl w.heap.size (v := .slice xo k co) rfl hoX.out rfl hsX.out HONE.out (by unfold maxLen; omega) (by omega) hlw (fun v2 w4 hC4 hg4 hwh => ?_); simp only [Act.put, List.setIfInBounds_toArray, List.set_cons_succ, List.set_cons_zero])
          | (refine Agg.gSliceFrom (.slice y3 rl c3) rfl rfl rfl rfl HSL.out ?_; simp only [Act.put, List.setIfInBounds_toArray, List.set_cons_succ, List.set_cons_zero]))
        rw [hfl.out] at hC4
        have hbW := HB.out.trans (hbX.mono HB.out.size)
        have hb4 := hbW.trans (grown_below hg4 hlw (own_block hoX.out))
        exact ⟨⟨k + 1, y3, c3, by omega, by rw [← HADD.out], by rw [HRL.out], HRS.out, hC4, hb4⟩, by show rl < R.length; exact HLT2.out⟩
    · obtain rfl : k = m := by omega
      have hr0 : ¬ ((R.length : Nat) : Int) > 0 := by omega
      clear HRE
      go_wp2_with fail
      go_ret
      exact ⟨_, rfl, HO.out, HB.out⟩
end Go.Proofs.Ytgfmpkcgkjpgnaa
