/-
  DEVICES: a Fill's block.
-/
import Derived.Test.YtapdigcpaebjiaaDvU
section
namespace Pg
open Go Go.RowKit Agg
/-- what a part of a row is stored over -/
theorem spliced_part (a b c d : List Value) (j : Nat) (h : j + d.length ≤ b.length) : spliced (a ++ b ++ c) (a.length + j) d = a ++ spliced b j d ++ c := by
  have h1 : (a ++ b ++ c).take (a.length + j) = a ++ b.take j := by
    rw [List.append_assoc, List.take_append, List.take_of_length_le (by omega), Nat.add_sub_cancel_left, List.take_append_of_le_length (by omega)]
  have h2 : (a ++ b ++ c).drop (a.length + j + d.length) = b.drop (j + d.length) ++ c := by
    rw [List.append_assoc, List.drop_append, List.drop_eq_nil_of_le (by omega), show a.length + j + d.length - a.length = j + d.length by omega, List.drop_append_of_le_length (by omega)]; simp
  rw [spliced, h1, h2, spliced]
  simp only [List.append_assoc]
theorem spliced_one (l : List Value) (i : Nat) (v : Value) (h : i < l.length) : spliced l i [v] = l.set i v := by
  rw [spliced, List.set_eq_take_append_cons_drop, if_pos h]; simp
theorem secC_byte (s : Sec) (i : Nat) (v : UInt8) (h : i < s.2.length) : spliced (secC s) (1 + i) [.int .u8 (v.toNat : Int)] = secC (s.1, s.2.set i v) := by
  rw [spliced_one _ _ _ (by simp [secC, bv_length]; omega), Nat.add_comm 1 i, secC, secC, List.set_cons_succ]
  congr 1
  simp [bv, List.map_set]
theorem blkC_byteset (b : List Sec) (hl : Len32 b) (k : Nat) (h : k < b.length) (i : Nat) (hi : i < 32) (v : UInt8) : spliced (blkC b) (k * 33 + (1 + i)) [.int .u8 (v.toNat : Int)] = blkC (b.set k (b[k].1, b[k].2.set i v)) := by
  have h32 := hl _ (List.getElem_mem h)
  have e : blkC b = blkC (b.take k) ++ secC b[k] ++ blkC (b.drop (k + 1)) := by
    conv => lhs; rw [cut_at b k h]
    rw [blkC_append, blkC_cons]; simp only [List.append_assoc]
  have e2 : b.set k (b[k].1, b[k].2.set i v) = b.take k ++ ((b[k].1, b[k].2.set i v) :: b.drop (k + 1)) := by rw [List.set_eq_take_append_cons_drop, if_pos h]
  rw [e, ← take_len b hl k (by omega), spliced_part _ _ _ _ _ (by rw [secC_length _ h32]; simp; omega), secC_byte _ _ _ (by omega), e2, blkC_append, blkC_cons]
  simp only [List.append_assoc]
end Pg
namespace Dv
open Go Go.RowKit Agg Pg
/-- a block, told by its page, its stamps, and a byte -/
structure Fl where
  page : Int
  st : List Nat
  byte : UInt8
def Fl.Ok (f : Fl) : Prop := f.st.length = 4 ∧ ∀ s ∈ f.st, s < 18446744073709551616
def flC (f : Fl) : List Value := .int .i64 f.page :: ((f.st.map fun s : Nat => Value.int .u64 (s : Int)) ++ [.int .u8 (f.byte.toNat : Int)])
def fillSec (f : Fl) (j : Nat) : Sec := (f.st.getD j 0, List.replicate 32 (f.byte + UInt8.ofNat j))
def fillB (f : Fl) : List Sec := (List.range 4).map (fillSec f)
/-- .. as far as sector k, byte i; the stamp of sector k stands -/
def fillMid (f : Fl) (k i : Nat) : List Sec := (List.range 4).map fun j => if j < k then fillSec f j else if j = k then (f.st.getD j 0, List.replicate i (f.byte + UInt8.ofNat j) ++ List.replicate (32 - i) 0) else (0, List.replicate 32 0)
def fillTo (f : Fl) (k : Nat) : List Sec := (List.range 4).map fun j => if j < k then fillSec f j else (0, List.replicate 32 0)
theorem fillTo_zero (f : Fl) : fillTo f 0 = zeroB := rfl
theorem fillTo_all (f : Fl) : fillTo f 4 = fillB f := rfl
theorem fillMid_all (f : Fl) (k : Nat) (hk : k < 4) : fillMid f k 32 = fillTo f (k + 1) := by
  unfold fillMid fillTo
  apply List.map_congr_left
  intro j _
  by_cases h : j < k
  · rw [if_pos h, if_pos (by omega)]
  · rw [if_neg h]
    by_cases h2 : j = k
    · subst h2
      rw [if_pos rfl, if_pos (by omega)]; rfl
    · rw [if_neg h2, if_neg (by omega)]
theorem rep_set (n i : Nat) (a : UInt8) (h : i < n) : (List.replicate i a ++ List.replicate (n - i) 0).set i a = List.replicate (i + 1) a ++ List.replicate (n - (i + 1)) 0 := by
  rw [List.set_append_right _ _ (by simp)]
  rw [List.length_replicate, Nat.sub_self, show n - i = (n - (i + 1)) + 1 by omega, List.replicate_succ, List.set_cons_zero, List.replicate_succ', List.append_assoc]; rfl
theorem fillMid_succ (f : Fl) (k i : Nat) (hk : k < 4) (hi : i < 32) (h : k < (fillMid f k i).length) : (fillMid f k i).set k ((fillMid f k i)[k].1, (fillMid f k i)[k].2.set i (f.byte + UInt8.ofNat k)) = fillMid f k (i + 1) := by
  have hg : (fillMid f k i)[k] = (f.st.getD k 0, List.replicate i (f.byte + UInt8.ofNat k) ++ List.replicate (32 - i) 0) := by simp [fillMid]
  rw [hg]
  dsimp only
  rw [rep_set 32 i _ hi]
  unfold fillMid
  apply List.ext_getElem
  · simp
  · intro j h1 h2
    rw [List.getElem_set]
    by_cases e : k = j
    · subst e; simp
    · rw [if_neg e]
      have : ¬ j = k := fun e2 => e e2.symm
      simp [this]
theorem fillTo_stamp (f : Fl) (k : Nat) (hk : k < 4) (h : k < (fillTo f k).length) : (fillTo f k).set k (f.st.getD k 0, (fillTo f k)[k].2) = fillMid f k 0 := by
  have hg : (fillTo f k)[k] = (0, List.replicate 32 0) := by simp [fillTo]
  rw [hg]
  unfold fillMid fillTo
  apply List.ext_getElem
  · simp
  · intro j h1 h2
    rw [List.getElem_set]
    by_cases e : k = j
    · subst e; simp
    · rw [if_neg e]
      have : ¬ j = k := fun e2 => e e2.symm
      simp [this]
theorem getD_lt {f : Fl} (h : f.Ok) (j : Nat) : f.st.getD j 0 < 18446744073709551616 := by
  rw [List.getD_eq_getElem?_getD]
  cases e : f.st[j]? with
  | none => decide
  | some s => exact h.2 s (List.mem_of_getElem? e)
theorem fillMid_bok {f : Fl} (h : f.Ok) (k i : Nat) (hi : i ≤ 32) : BOk (fillMid f k i) := by
  refine ⟨by simp [fillMid], fun s hs => ?_⟩
  obtain ⟨j, _, rfl⟩ := List.mem_map.1 hs
  split
  · exact ⟨by simp [fillSec], getD_lt h j⟩
  · split
    · exact ⟨by simp; omega, getD_lt h j⟩
    · exact ⟨by simp, by decide⟩
theorem fillTo_bok {f : Fl} (h : f.Ok) (k : Nat) : BOk (fillTo f k) := by
  refine ⟨by simp [fillTo], fun s hs => ?_⟩
  obtain ⟨j, _, rfl⟩ := List.mem_map.1 hs
  split
  · exact ⟨by simp [fillSec], getD_lt h j⟩
  · exact ⟨by simp, by decide⟩
theorem fillB_bok {f : Fl} (h : f.Ok) : BOk (fillB f) := fillTo_all f ▸ fillTo_bok h 4
end Dv
namespace Go.Proofs.Ytapdigcpaebjiaa
open Go.ChangeShapes Go.WideShapes Go.ChangeAt Go.RowKit Agg Pg Dv

theorem fo_fo_Fl_0 : Agg.fieldOff Try.prog 28 0 = some 0 := by kernel_rfl
theorem fo_fo_Fl_1 : Agg.fieldOff Try.prog 28 1 = some 1 := by kernel_rfl
theorem fo_fo_Fl_2 : Agg.fieldOff Try.prog 28 2 = some 5 := by kernel_rfl
theorem fo_fo_Se_0 : Agg.fieldOff Try.prog 44 0 = some 0 := by kernel_rfl
theorem fo_fo_Se_1 : Agg.fieldOff Try.prog 44 1 = some 1 := by kernel_rfl
theorem ai32 : AI Try.prog 42 5 32 1 := ⟨by kernel_rfl, by kernel_rfl⟩
theorem add_u8 (a : UInt8) (k : Nat) : IntKind.u8.wrap ((a.toNat : Int) + IntKind.u8.wrap (k : Int)) = ((a + UInt8.ofNat k).toNat : Int) := by
  rw [UInt8.toNat_add]
  have e : ∀ z : Int, IntKind.u8.wrap z = z % 256 := fun z => by simp [IntKind.wrap, IntKind.bits, IntKind.signed]
  rw [e, e, UInt8.toNat_ofNat']
  omega
set_option maxHeartbeats 4000000 in
set_option maxRecDepth 100000 in
theorem block_any (f : Fl) (hf : f.Ok) (w : World) :
    Calls Try.prog 18 #[.agg (flC f).toArray] w fun e w' => e = .returned (.agg (blkC (fillB f)).toArray) ∧ Below w.heap.size w w' := by
  have HF := Lib.hid hf
  clear hf
  have HB := Lib.hid (Below.refl w.heap.size w)
  go_enter Try.func18, Try.ntmps18
  go_upto_region 2 with (refine Agg.allocRow 46 (blkC zeroB).toArray rfl rfl (by kernel_rfl) ?_; simp only [Act.put, List.setIfInBounds_toArray, List.set_cons_succ, List.set_cons_zero])
  refine Agg.wp_at fun w1 hw1 => ?_
  have hb : Below w.heap.size w w1 := by rw [hw1.out]; repeat (first | exact Below.refl _ _ | refine Agg.bel_drew ?_ | refine Agg.bel_alloc ?_ _)
  replace HB := Lib.hid (HB.out.trans (hb.mono HB.out.size))
  clear hb
  have H0 : Hid (Blk w1 w.heap.size 28 (flC f)) := by show Blk _ _ _ _; rw [hw1.out]; exact ((Blk.new w 28 (flC f).toArray).al _).al _
  have H2 : Hid (Blk w1 (w.heap.size + 1) 46 (blkC zeroB)) := by show Blk _ _ _ _; rw [hw1.out]; exact (Blk.newAt (w.alloc _) 46 (blkC zeroB).toArray _ (by simp)).al _
  have H3 : Hid (Blk w1 (w.heap.size + 2) 46 (blkC zeroB)) := by show Blk _ _ _ _; rw [hw1.out]; exact Blk.newAt ((w.alloc _).alloc _) 46 (blkC zeroB).toArray _ (by simp)
  clear hw1
  simp only [World.size_alloc]
  go_wp2_with fail
  go_loopw [6, 4] (fun i _ wr => ∃ k : Nat, k ≤ 4 ∧ i = .int .i64 k ∧ Below w.heap.size w wr ∧ Blk wr w.heap.size 28 (flC f) ∧ Blk wr (w.heap.size + 1) 46 (blkC zeroB) ∧ Blk wr (w.heap.size + 2) 46 (blkC (fillTo f k))) (fun i _ _ => 4 - (intOf i).toNat)
  case atStart => exact ⟨0, by omega, rfl, HB.out, H0.out, H2.out, H3.out⟩
  case round =>
    obtain ⟨k, hk, rfl, hb, h0, h2, h3⟩ := hrel
    obtain ⟨wA, hwA⟩ : ∃ x, x = wr := ⟨_, rfl⟩
    subst hwA
    replace HB := Lib.hid hb
    replace H0 := Lib.hid h0
    replace H2 := Lib.hid h2
    replace H3 := Lib.hid h3
    clear hb h0 h2 h3
    by_cases hlt : k < 4
    · have hk4 : (k : Int) < 4 := by omega
      have hst : k < f.st.length := by rw [HF.out.1]; exact hlt
      have hc : wA.cell? ⟨w.heap.size, 1 + k, none⟩ = some (.int .u64 (f.st[k] : Int)) := by
        rw [H0.out.cell, flC, Nat.add_comm 1 k, List.getElem?_cons_succ, List.getElem?_append_left (by simpa using hst), List.getElem?_map, List.getElem?_eq_getElem hst, Option.map_some]
      have HTS := Lib.hid (fillTo_stamp f k hlt (by simp [fillTo]; exact hlt))
      have hgs : f.st.getD k 0 = f.st[k] := by rw [List.getD_eq_getElem?_getD, List.getElem?_eq_getElem hst]; rfl
      rw [hgs] at HTS
      have h3 := H3.out
      have hfb := fillTo_bok HF.out k
      have hin : k < (fillTo f k).length := by rw [hfb.1]; exact hlt
      have hst2 := blkC_stamped (fillTo f k) hfb.len k hin f.st[k] []
      simp only [List.append_nil] at hst2
      rw [HTS.out] at hst2
      have hf1 : k * 33 + 1 ≤ (blkC (fillTo f k)).length := by rw [bok_cells hfb]; omega
      generalize f.st[k] = s at *
      go_upto_region 7 with (refine Agg.gStoreCell (k * 33) (.int .u64 (s : Int)) h3 rfl rfl rfl rfl rfl (by kernel_rfl) rfl hf1 rfl (fun w12 hb12 hg12 => ?_); clear h3)
      rw [hst2] at hb12
      have h0c := H0.out.far' hg12 (by omega)
      have h2c := H2.out.far' hg12 (by omega)
      have hbc := HB.out.trans (grown_below hg12 HB.out.size (fun j hj => by cases hj; omega))
      clear hst2 hf1 hc hfb hin HTS hgs hg12 H0 H2 H3
      replace HB := Lib.hid hbc
      clear hbc
      go_loopw [16, 5] (fun j _ wr => ∃ i : Nat, i ≤ 32 ∧ j = .int .i64 i ∧ Below w.heap.size w wr ∧ Blk wr w.heap.size 28 (flC f) ∧ Blk wr (w.heap.size + 1) 46 (blkC zeroB) ∧ Blk wr (w.heap.size + 2) 46 (blkC (fillMid f k i))) (fun j _ _ => 32 - (intOf j).toNat)
      case atStart => exact ⟨0, by omega, rfl, HB.out, h0c, h2c, hb12⟩
      case round =>
        obtain ⟨i, hi, rfl, hb, h0, h2, h3⟩ := hrel
        obtain ⟨wC, hwC⟩ : ∃ x, x = wr := ⟨_, rfl⟩
        subst hwC
        replace HB := Lib.hid hb
        have H0 := Lib.hid h0
        have H2 := Lib.hid h2
        have H3 := Lib.hid h3
        clear hb h0 h2 h3 h0c h2c hb12
        by_cases hlt2 : i < 32
        · have hi4 : (i : Int) < 32 := by omega
          have hmb := fillMid_bok HF.out k i (by omega)
          have hin : k < (fillMid f k i).length := by rw [hmb.1]; exact hlt
          have hset := blkC_byteset (fillMid f k i) hmb.len k hin i hlt2 (f.byte + UInt8.ofNat k)
          rw [fillMid_succ f k i hlt hlt2 hin] at hset
          rw [← Nat.add_assoc] at hset
          have hfit : k * 33 + 1 + i + 1 ≤ (blkC (fillMid f k i)).length := by rw [bok_cells hmb]; omega
          have hm := H3.out
          have H05 : Hid ((flC f)[5]? = some (.int .u8 (f.byte.toNat : Int))) := Lib.hid (by
            rw [flC, List.getElem?_cons_succ, List.getElem?_append_right (by simp; rw [HF.out.1]; omega)]; simp [HF.out.1])
          clear hmb hin
          go_upto_region 9 with (fail)
          refine Agg.chainR 10 (by kernel_rfl) (by kernel_rfl) ?_
          simp only [List.take_succ_cons, List.take_zero, List.drop_succ_cons, List.drop_zero]
          refine Agg.chMove rfl rfl rfl rfl ?_
          refine Agg.chMove rfl rfl rfl rfl ?_
          refine Agg.chFA fo_fo_Fl_2 rfl rfl rfl rfl ?_
          refine Agg.chLoad rfl rfl rfl rfl (by decide +kernel) (by show wC.cell? ⟨w.heap.size, 5, none⟩ = _; rw [H0.out.cell]; exact H05.out) ?_
          refine Agg.chMove rfl rfl rfl rfl ?_
          refine Agg.chInt _ rfl (by kernel_rfl) Try.underlying5 rfl rfl rfl rfl ?_
          refine Agg.chAr (r := ((f.byte + UInt8.ofNat k).toNat : Int)) rfl rfl rfl (congrArg some (add_u8 f.byte k)) rfl rfl ?_
          refine Agg.chIAA aiBl (by omega) (by omega) rfl rfl rfl rfl rfl ?_
          refine Agg.chFA fo_fo_Se_1 rfl rfl rfl rfl ?_
          refine Agg.chIAA ai32 (by omega) (by omega) rfl rfl rfl rfl rfl ?_
          refine Agg.chEnd ?_
          intro vs w21 hb hf
          simp only [List.reverse, List.reverseAux, Agg.Facts] at hf
          obtain _ := hf
          simp only [List.reverse, List.reverseAux, Agg.fill, List.set_cons_succ, List.set_cons_zero]
          simp only [Nat.zero_add, Int.toNat_natCast, Nat.mul_one]
          refine Agg.gStoreCell (k * 33 + 1 + i) (.int .u8 ((f.byte + UInt8.ofNat k).toNat : Int)) (hm.keep hb) rfl rfl rfl rfl rfl (by kernel_rfl) rfl hfit rfl (fun w13 hb13 hg13 => ?_)
          rw [hset] at hb13
          have h0c := (H0.out.keep hb).far' hg13 (by omega)
          have h2c := (H2.out.keep hb).far' hg13 (by omega)
          have hbA := HB.out.trans (hb.mono HB.out.size)
          have hbB := hbA.trans (grown_below hg13 hbA.size (fun j hj => by cases hj; omega))
          refine Agg.wpNil ?_
          clear hset hfit hm hg13 hb HB H0 H2 H3
          go_wp2_with fail
          go_roundw
          case rel => exact ⟨i + 1, by omega, by go_num, hbB, h0c, h2c, hb13⟩
          case measure => simp [intOf]; omega
        · obtain rfl : i = 32 := by omega
          rw [fillMid_all f k hlt] at H3
          go_wp2_with fail
          go_roundw
          case rel => exact ⟨k + 1, by omega, by go_num, HB.out, H0.out, H2.out, H3.out⟩
          case measure => simp [intOf]; omega
    · obtain rfl : k = 4 := by omega
      have h2 := H2.out
      have h3 := H3.out
      rw [fillTo_all] at h3
      have h132 := bok_cells (fillB_bok HF.out)
      go_wp2_with (first
        | (refine Agg.gLoadB 132 h3 h132 rfl rfl rfl (by decide +kernel) ?_; simp only [Act.put, List.setIfInBounds_toArray, List.set_cons_succ, List.set_cons_zero])
        | (refine Agg.gStoreB 132 (blkC (fillB f)) h2 rfl rfl rfl rfl rfl (by decide +kernel) zero132 h132 (blkC_one _) (fun w14 hb14 hg14 => ?_)))
      refine bodyPost_ret (results_row1 (m := 132) rfl hb14 rfl (by decide +kernel) h132) rfl ⟨rfl, ?_⟩
      exact HB.out.trans (grown_below hg14 HB.out.size (fun j hj => by cases hj; omega))
end Go.Proofs.Ytapdigcpaebjiaa
end
section
/-
  DEVICES: an op, its masks.
-/
namespace Agg
open Go Go.RowKit
/-- a slice of a slice, up to a place -/
theorem gSliceTo {P : Program} {w : World} {o : Oper} {Q : Exit → Act → World → Prop} {ops : Array Oper} {rest : List Oper} {a : Act} {t : TypeId} {x y : Operand} {u v : Value} (r : Value) (hg : o.guard = none) (ho : o.op = .slice t x none (some y) none) (hx : a.eval x = u) (hy : a.eval y = v) (hr : ∀ w2, (Instr.sliceAt t u none (some v) none).run P w2 = .ok r w2)
    (h : wpList P ops Q rest (a.put o.dst r) w) : wpList P ops Q (o :: rest) a w := by
  refine Agg.run hg r w ?_ h
  simp only [execOp, ho, Option.map_some, Option.map_none, hx, hy, hr, Sem.run_bind, Result.andThen_ok, Sem.run_pure]
end Agg
namespace Dv
open Go Go.RowKit Agg Pg
/-- what is done -/
structure OpD where
  kind : Int
  fl : Fl
  n : Int
  ms : List Int
def opC (o : OpD) (mv : Value) : List Value := .int .i64 o.kind :: (flC o.fl ++ [.int .i64 o.n, mv])
theorem flC_length {f : Fl} (h : f.Ok) : (flC f).length = 6 := by simp [flC, h.1]
theorem opC_length {o : OpD} (h : o.fl.Ok) (mv : Value) : (opC o mv).length = 9 := by simp [opC, flC_length h]
theorem opC_mv {o : OpD} (h : o.fl.Ok) (mv : Value) : (opC o mv)[8]? = some mv := by
  rw [opC, List.getElem?_cons_succ, List.getElem?_append_right (by rw [flC_length h]; omega), flC_length h]; rfl
theorem opC_n {o : OpD} (h : o.fl.Ok) (mv : Value) : (opC o mv)[7]? = some (.int .i64 o.n) := by
  rw [opC, List.getElem?_cons_succ, List.getElem?_append_right (by rw [flC_length h]; omega), flC_length h]; rfl
theorem opC_fl {o : OpD} (h : o.fl.Ok) (mv : Value) (i : Nat) (hi : i < 6) : (opC o mv)[1 + i]? = (flC o.fl)[i]? := by
  rw [opC, Nat.add_comm 1 i, List.getElem?_cons_succ, List.getElem?_append_left (by rw [flC_length h]; exact hi)]
theorem opC_page {o : OpD} (mv : Value) : (opC o mv)[1]? = some (.int .i64 o.fl.page) := rfl
theorem opC_kind {o : OpD} (mv : Value) : (opC o mv)[0]? = some (.int .i64 o.kind) := rfl
end Dv
namespace Go.Proofs.Ytapdigcpaebjiaa
open Go.ChangeShapes Go.WideShapes Go.ChangeAt Go.RowKit Agg Pg Dv

set_option maxHeartbeats 4000000 in
set_option maxRecDepth 100000 in
theorem masks_any (o : OpD) (mv : Value) (hf : o.fl.Ok) (w : World) (hm : Ints w mv o.ms) :
    Calls Try.prog 26 #[.agg (opC o mv).toArray] w fun e w' => ∃ v, e = .returned v ∧ Ints w' v (o.ms.take 60) ∧ Below w.heap.size w w' := by
  obtain ⟨mx, mc, rfl, hmc, hmc2⟩ := hm.shape
  have HM := Lib.hid hm
  have HF := Lib.hid hf
  clear hm hf
  have HB := Lib.hid (Below.refl w.heap.size w)
  go_enter Try.func26, Try.ntmps26
  go_upto_region 1 with (fail)
  refine Agg.wp_at fun w1 hw1 => ?_
  have hb : Below w.heap.size w w1 := by rw [hw1.out]; repeat (first | exact Below.refl _ _ | refine Agg.bel_drew ?_ | refine Agg.bel_alloc ?_ _)
  replace HB := Lib.hid (HB.out.trans (hb.mono HB.out.size))
  replace HM := Lib.hid (HM.out.keep hb)
  clear hb
  have H1 : Hid (Blk w1 w.heap.size 31 (opC o (.slice mx o.ms.length mc))) := by show Blk _ _ _ _; rw [hw1.out]; exact Blk.new w 31 (opC o (.slice mx o.ms.length mc)).toArray
  clear hw1
  have hc8 := H1.out.cell 8
  rw [opC_mv HF.out] at hc8
  have hmn : min (o.ms.length : Int) 60 = ((min o.ms.length 60 : Nat) : Int) := by omega
  obtain ⟨q, hq⟩ : ∃ q, min o.ms.length 60 = q := ⟨_, rfl⟩
  have hql : q ≤ o.ms.length := by omega
  have ht : o.ms.take 60 = o.ms.take q := by
    rw [← hq]
    by_cases h : o.ms.length ≤ 60
    · rw [List.take_of_length_le h, Nat.min_eq_left h, List.take_length]
    · rw [Nat.min_eq_right (by omega)]
  have hlt : (o.ms.take q).length = q := by rw [List.length_take]; omega
  have HQ := HM.out.take q hql
  rw [Nat.mul_one, iC, ← List.map_take] at HQ
  have HQ2 : Hid (Ints w1 (.slice mx q mc) (o.ms.take q)) := Lib.hid (by
    unfold Ints
    rw [hlt]; exact HQ)
  rw [hq] at hmn
  have HT := Lib.hid ht
  have HLT := Lib.hid hlt
  clear HQ ht hlt
  go_wp2_with (first
    | (refine Agg.min2 _ _ _ (q : Int) rfl rfl rfl rfl hmn ?_; simp only [Act.put, List.setIfInBounds_toArray, List.set_cons_succ, List.set_cons_zero])
    | (refine Agg.gSliceTo (.slice mx q mc) rfl rfl rfl rfl (fun w2 => run_slice_upto tiInt mx o.ms.length mc q (by omega) w2) ?_; simp only [Act.put, List.setIfInBounds_toArray, List.set_cons_succ, List.set_cons_zero]))
  refine (cloneI_any (o.ms.take q) (.slice mx q mc) w1 HQ2.out (by rw [HLT.out]; omega)).mono ?_
  rintro e w2 ⟨u, rfl, hu, hb⟩
  replace HB := Lib.hid (HB.out.trans (hb.mono HB.out.size))
  replace HM := Lib.hid (HM.out.keep hb)
  replace H1 := Lib.hid (H1.out.keep hb)
  clear hb
  have HU := Lib.hid hu
  clear hu
  go_wp2_with fail
  go_ret
  exact ⟨_, rfl, by rw [HT.out]; exact ownSl HU.out, HB.out⟩
end Go.Proofs.Ytapdigcpaebjiaa
end
