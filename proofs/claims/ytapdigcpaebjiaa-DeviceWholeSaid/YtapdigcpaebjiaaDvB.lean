/-
  DEVICES: New.
-/
import Derived.Test.YtapdigcpaebjiaaDv8
import Derived.Test.YtapdigcpaebjiaaDv1
import Derived.Test.YtapdigcpaebjiaaCopy
section
namespace Go.Proofs.Ytapdigcpaebjiaa
open Go.ChangeShapes Go.WideShapes Go.ChangeAt Go.RowKit Agg Pg Dv

set_option maxHeartbeats 4000000 in
set_option maxRecDepth 100000 in
theorem new_any (n : Nat) (h24 : 24 ≤ n) (h256 : n ≤ 256) (w : World) :
    Calls Try.prog 14 #[.int .i64 (n : Int)] w fun e w' => ∃ p, e = .returned (.tuple #[.agg #[p, .slice none 0 0, .int .i64 (-1), .bool false], .int .i64 0]) ∧ w'.ownsRow w.heap.size 46 132 p n ((List.replicate n zeroB).flatMap blkC) ∧ Below w.heap.size w w' := by
  have g1 : ¬ (n : Int) < 24 := by omega
  have g2 : ¬ (n : Int) > 256 := by omega
  have hn2 : (n : Int) ≤ 256 := by omega
  have HB := Lib.hid (Below.refl w.heap.size w)
  go_enter Try.func14, Try.ntmps14
  go_upto_region 3 with (fail)
  refine Agg.wp_at fun w1 hw1 => ?_
  have hb : Below w.heap.size w w1 := by rw [hw1.out]; repeat (first | exact Below.refl _ _ | refine Agg.bel_drew ?_ | refine Agg.bel_alloc ?_ _)
  replace HB := Lib.hid (HB.out.trans (hb.mono HB.out.size))
  clear hb
  have H2 : Hid (Blk w1 w.heap.size 36 [.slice none 0 0, .slice none 0 0, .int .i64 0, .bool false]) := by show Blk _ _ _ _; rw [hw1.out]; exact Blk.new w 36 #[.slice none 0 0, .slice none 0 0, .int .i64 0, .bool false]
  have HSW : Hid (w1.heap.size = w.heap.size + 1) := by show _ = _; rw [hw1.out]; simp
  clear hw1
  have hlit := World.ownsRow_lit (e := 46) (size := 132) (base := w.heap.size) w1 (madeCells (Value.cells (.agg (blkC zeroB).toArray)) (n * 132)) n (by have := HSW.out; omega) (by unfold maxLen; omega) (size_madeCells _ _)
  rw [made_pages] at hlit
  have h2 := H2.out.al (.cells (madeCells (Value.cells (.agg (blkC zeroB).toArray)) (n * 132)) 46)
  have hb2 := HB.out.trans (bel_alloc (Below.refl _ w1) (.cells (madeCells (Value.cells (.agg (blkC zeroB).toArray)) (n * 132)) 46) |>.mono HB.out.size)
  go_wp2_with (first
    | (refine Agg.make tiBl _ _ rfl rfl n n rfl rfl rfl rfl (Nat.le_refl _) (by omega) (by unfold maxLen; omega) ?_; simp only [Act.put, List.setIfInBounds_toArray, List.set_cons_succ, List.set_cons_zero])
    | (refine Agg.gStoreB 4 [.slice (some ⟨w1.heap.size, 0, none⟩) n n, .slice none 0 0, .int .i64 (-1), .bool false] h2 rfl rfl rfl rfl rfl (by decide +kernel) rfl rfl (by simp [Value.oneCell']) (fun w14 hb14 hg14 => ?_)))
  refine bodyPost_ret (results_row2 (m := 4) rfl hb14 rfl (by decide +kernel) rfl) rfl ⟨_, rfl, hlit.kept hg14 (.inr (by have := HSW.out; simp [Value.ownBlock]; omega)), ?_⟩
  exact hb2.trans (grown_below hg14 hb2.size (fun j hj => (by cases hj; exact Nat.le_refl _)))
set_option maxHeartbeats 4000000 in
set_option maxRecDepth 100000 in
theorem new_bad (k : Int) (h : k < 24 ∨ 256 < k) (w : World) :
    Calls Try.prog 14 #[.int .i64 k] w fun e w' => e = .returned (.tuple #[.agg #[.slice none 0 0, .slice none 0 0, .int .i64 0, .bool false], .int .i64 2]) ∧ Below w.heap.size w w' := by
  have HH := Lib.hid h
  clear h
  have HB := Lib.hid (Below.refl w.heap.size w)
  go_enter Try.func14, Try.ntmps14
  have hz : ∀ w1 : World, (Instr.build 36 #[]).run Try.prog w1 = .ok (.agg #[.slice none 0 0, .slice none 0 0, .int .i64 0, .bool false]) w1 := fun _ => by kernel_rfl
  have HZ := Lib.hid hz
  clear hz
  have h2 := Blk.new w 36 #[.slice none 0 0, .slice none 0 0, .int .i64 0, .bool false]
  have hb2 := bel_alloc HB.out (.cells #[.slice none 0 0, .slice none 0 0, .int .i64 0, .bool false] 36)
  by_cases h1 : k < 24
  · go_wp2_with (first
      | (refine Agg.gBuild0 (.agg #[.slice none 0 0, .slice none 0 0, .int .i64 0, .bool false]) rfl rfl (fun _ => HZ.out _) ?_; simp only [Act.put, List.setIfInBounds_toArray, List.set_cons_succ, List.set_cons_zero])
      | (refine Agg.gStoreB 4 [.slice none 0 0, .slice none 0 0, .int .i64 0, .bool false] h2 rfl rfl rfl rfl rfl (by decide +kernel) rfl rfl (by simp [Value.oneCell']) (fun w14 hb14 hg14 => ?_)))
    refine bodyPost_ret (results_row2 (m := 4) rfl hb14 rfl (by decide +kernel) rfl) rfl ⟨rfl, ?_⟩
    exact hb2.trans (grown_below hg14 hb2.size (fun j hj => (by cases hj; exact Nat.le_refl _)))
  · have h3 : k > 256 := by have := HH.out; omega
    go_wp2_with (first
      | (refine Agg.gBuild0 (.agg #[.slice none 0 0, .slice none 0 0, .int .i64 0, .bool false]) rfl rfl (fun _ => HZ.out _) ?_; simp only [Act.put, List.setIfInBounds_toArray, List.set_cons_succ, List.set_cons_zero])
      | (refine Agg.gStoreB 4 [.slice none 0 0, .slice none 0 0, .int .i64 0, .bool false] h2 rfl rfl rfl rfl rfl (by decide +kernel) rfl rfl (by simp [Value.oneCell']) (fun w14 hb14 hg14 => ?_)))
    refine bodyPost_ret (results_row2 (m := 4) rfl hb14 rfl (by decide +kernel) rfl) rfl ⟨rfl, ?_⟩
    exact hb2.trans (grown_below hg14 hb2.size (fun j hj => (by cases hj; exact Nat.le_refl _)))
end Go.Proofs.Ytapdigcpaebjiaa
end
section
/-
  DEVICES: == of blocks and of writes; rows of them compared.
-/
namespace Agg
open Go Go.ChangeShapes Go.WideShapes Go.ChangeAt Go.RowKit
section
variable {n kk : Nat} {P : Program} {l rest : List Oper} {W : World} {l0 : List Value} {ds : List Deferred} {acc : List R} {o : Oper} {fin : List R → Prop}
/-- a row of cells, wherever it lies -/
theorem chRowAt (m : Nat) (cs : List Value) (hm : cs.length = m) {b f : Nat} {t : TypeId} {y : Operand} (ht : aggT P t m = true) (ho : o.op = .load t y) (hy : rd (l.take n) l0 kk acc o y = some (.pointer (some ⟨b, f, none⟩))) (hw : wants kk acc o = some true) (hk : gOk l o = true)
    (hc : ∀ i v, cs[i]? = some v → W.cell? ⟨b, f + i, none⟩ = some v)
    (h : ChainR n P l.toArray W ⟨l0.toArray, ds⟩ (kk + 1) ((.pure (.agg cs.toArray)) :: acc) rest fin) : ChainR n P l.toArray W ⟨l0.toArray, ds⟩ kk acc (o :: rest) fin := by
  subst hm
  simp only [aggT, Bool.and_eq_true, beq_iff_eq] at ht
  obtain ⟨e1, e2⟩ := ht
  cases hu : P.underlying t with
  | none => simp [hu] at e1
  | some d =>
    refine chLoadRow d cs ho hy hw hk hu ?_ e2 (fun i v hi => ?_) h
    · cases d <;> simp [hu] at e1 <;> rfl
    · rw [add_none]; exact hc i v hi
end
end Agg
namespace Go.Proofs.Ytapdigcpaebjiaa
open Go.ChangeShapes Go.WideShapes Go.ChangeAt Go.RowKit Agg Pg Dv

def ksSec : List (Option IntKind) := some .u64 :: List.replicate 32 (some .u8)
def ksBlk : List (Option IntKind) := (List.replicate 4 ksSec).flatten
set_option maxRecDepth 100000 in
theorem flatBlk : Flat Try.prog 5 46 ksBlk := ⟨by kernel_rfl, by kernel_rfl, by kernel_rfl, by kernel_rfl, by decide, by kernel_rfl⟩
theorem fits_bv (l : List UInt8) : Agg.Fits (List.replicate l.length (some .u8)) (bv l) := by
  induction l with
  | nil => trivial
  | cons c r ih =>
    refine ⟨⟨_, rfl, ?_⟩, ih⟩
    have := c.toNat_lt
    simp [Lit.wf, IntKind.min, IntKind.max, IntKind.signed, IntKind.bits]; omega
theorem fits_sec (s : Sec) (h : s.2.length = 32) (hs : s.1 < 18446744073709551616) : Agg.Fits ksSec (secC s) := by
  refine ⟨⟨_, rfl, ?_⟩, ?_⟩
  · simp [Lit.wf, IntKind.min, IntKind.max, IntKind.signed, IntKind.bits]; omega
  · have := fits_bv s.2
    rwa [h] at this
theorem fits_blk (b : List Sec) (hb : BOk b) : Agg.Fits ksBlk (blkC b) := by
  have h := Agg.Fits.mkRep (l := ksSec) (cs := b.map secC) (fun c hc => by
    obtain ⟨s, hs, rfl⟩ := List.mem_map.1 hc
    exact fits_sec s (hb.2 s hs).1 (hb.2 s hs).2)
  rw [List.length_map, hb.1] at h
  exact h
theorem blkC_inj {a b : List Sec} (h : blkC a = blkC b) (ha : BOk a) (hb : BOk b) : a = b := by
  apply List.ext_getElem (by rw [ha.1, hb.1])
  intro i h1 h2
  have e1 := blkC_sec a ha.len i h1 []
  have e2 := blkC_sec b hb.len i h2 []
  rw [h, e2] at e1
  have hs : secC b[i] = secC a[i] := e1
  unfold secC at hs
  simp only [List.cons.injEq, Value.int.injEq, true_and] at hs
  obtain ⟨p, q⟩ := hs
  have hbv : ∀ l m : List UInt8, bv l = bv m → l = m := by
    intro l
    induction l with
    | nil => intro m hm; cases m with | nil => rfl | cons _ _ => simp [bv] at hm
    | cons c r ih =>
      intro m hm
      cases m with
      | nil => simp [bv] at hm
      | cons c' r' =>
        simp only [bv, List.map_cons, List.cons.injEq, Value.int.injEq, true_and] at hm
        rw [UInt8.toNat_inj.1 (Int.ofNat.inj hm.1), ih r' hm.2]
  exact Prod.ext (Int.ofNat.inj p).symm (hbv _ _ q).symm
theorem blk_neq (a b : List Sec) (ha : BOk a) (hb : BOk b) (r : Bool) (hr : decide (a = b) = r) (w : World) : (binOp .neq 46 (.agg (blkC a).toArray) (.agg (blkC b).toArray)).run Try.prog w = .ok (.bool (!r)) w :=
  flatBlk.neq (fits_blk a ha) (fits_blk b hb) r (by rw [← hr, decide_eq_true_eq]; exact ⟨fun e => by rw [e], fun e => blkC_inj e ha hb⟩) w
theorem blk_eql (a b : List Sec) (ha : BOk a) (hb : BOk b) (r : Bool) (hr : decide (a = b) = r) (w : World) : (binOp .eql 46 (.agg (blkC a).toArray) (.agg (blkC b).toArray)).run Try.prog w = .ok (.bool r) w :=
  flatBlk.eql (fits_blk a ha) (fits_blk b hb) r (by rw [← hr, decide_eq_true_eq]; exact ⟨fun e => by rw [e], fun e => blkC_inj e ha hb⟩) w
def ksWr : List (Option IntKind) := some .i64 :: ksBlk
set_option maxRecDepth 100000 in
theorem flatWr : Flat Try.prog 6 48 ksWr := ⟨by kernel_rfl, by kernel_rfl, by kernel_rfl, by kernel_rfl, by decide, by kernel_rfl⟩
set_option maxHeartbeats 2000000 in
set_option maxRecDepth 100000 in
theorem equalB_any (P Q : List (List Sec)) (u v : Value) (w : World) (hu : Pgs w u P) (hv : Pgs w v Q) (hP : ∀ b ∈ P, BOk b) (hQ : ∀ b ∈ Q, BOk b) (r : Bool) (hr : decide (P = Q) = r) :
    Calls Try.prog 35 #[u, v] w fun e w' => e = .returned (.bool r) ∧ Below w.heap.size w w' := by
  obtain ⟨x, cap, rfl, hc1, hc2⟩ := SlR.shape hu
  obtain ⟨y, dap, rfl, hd1, hd2⟩ := SlR.shape hv
  unfold maxLen at hc2 hd2
  have HU := Lib.hid hu
  have HV := Lib.hid hv
  have HP := Lib.hid hP
  have HQ := Lib.hid hQ
  have HR := Lib.hid hr
  have HCP : Hid (∀ b ∈ P, (blkC b).length = 132) := Lib.hid (fun b hb => bok_cells (hP b hb))
  have HCQ : Hid (∀ b ∈ Q, (blkC b).length = 132) := Lib.hid (fun b hb => bok_cells (hQ b hb))
  clear hu hv hP hQ hr
  have HB := Lib.hid (Below.refl w.heap.size w)
  go_enter Try.func35, Try.ntmps35
  by_cases hlen : P.length = Q.length
  · have HLE := Lib.hid hlen
    rw [← hlen] at HV hd1 ⊢
    clear hlen
    have hne : ((P.length : Int) != P.length) = false := by simp
    go_wp2_with fail
    clear hne
    go_loopw [13] (fun i wr => ∃ k : Nat, k ≤ P.length ∧ i = .int .i64 k ∧ Below w.heap.size w wr ∧ P.take k = Q.take k) (fun i _ => P.length - (intOf i).toNat)
    case atStart => exact ⟨0, by omega, rfl, Below.refl _ _, rfl⟩
    case round =>
      obtain ⟨k, hk, rfl, hb, htk⟩ := hrel
      replace HB := Lib.hid hb
      have HTK := Lib.hid htk
      have HU2 := Lib.hid (HU.out.keep HB.out)
      clear hb htk
      have hv2 : SlR wr (.slice y P.length dap) 132 Q.length (Q.flatMap blkC) := SlR.keep HV.out HB.out
      have HV2 := Lib.hid hv2
      clear hv2
      by_cases hlt : k < P.length
      · have hltq : k < Q.length := by have := HLE.out; omega
        obtain ⟨b, o, cap', hve, _, _, _, _⟩ := SlR.pos HU2.out (by decide) (by omega)
        simp only [Value.slice.injEq, true_and] at hve
        obtain ⟨rfl, rfl⟩ := hve
        obtain ⟨b2, o2, cap2, hve, _, _, _, _⟩ := SlR.pos HV2.out (by decide) (by omega)
        simp only [Value.slice.injEq, true_and] at hve
        obtain ⟨rfl, _, rfl⟩ := hve
        have hcu := Lib.hid (flat_at blkC 132 (by decide) HU2.out HCP.out hlt)
        have hcv := Lib.hid (flat_at blkC 132 (by decide) HV2.out HCQ.out hltq)
        have h1 := Lib.hid (HCP.out _ (List.getElem_mem hlt))
        have h2 := Lib.hid (HCQ.out _ (List.getElem_mem hltq))
        obtain ⟨q, hq⟩ : ∃ q, decide (P[k] = Q[k]) = q := ⟨_, rfl⟩
        have HNQ := Lib.hid (blk_neq P[k] Q[k] (HP.out _ (List.getElem_mem hlt)) (HQ.out _ (List.getElem_mem hltq)) q hq)
        have HQ2 := Lib.hid hq
        have HST : Hid (q = true → P.take (k + 1) = Q.take (k + 1)) := by
          refine Lib.hid (fun e => ?_)
          rw [e, decide_eq_true_eq] at hq
          rw [List.take_succ_eq_append_getElem hlt, List.take_succ_eq_append_getElem hltq, HTK.out, hq]
        have HNE : Hid (q = false → P ≠ Q) := by
          refine Lib.hid (fun e he => ?_)
          rw [e, decide_eq_false_iff_not] at hq
          exact hq (by subst he; rfl)
        clear hq
        generalize P[k] = A at *
        generalize Q[k] = B at *
        go_upto_region 6 with (fail)
        refine Agg.chainR 9 (by kernel_rfl) (by kernel_rfl) ?_
        simp only [List.take_succ_cons, List.take_zero, List.drop_succ_cons, List.drop_zero]
        refine Agg.chMove rfl rfl rfl rfl ?_
        refine Agg.chMove rfl rfl rfl rfl ?_
        refine Agg.chIA tiBl (by omega) (by omega) rfl rfl rfl rfl rfl ?_
        refine Agg.chRowAt 132 (blkC A) h1.out (by decide +kernel) rfl rfl rfl rfl hcu.out ?_
        refine Agg.chMove rfl rfl rfl rfl ?_
        refine Agg.chMove rfl rfl rfl rfl ?_
        refine Agg.chIA tiBl (by omega) (by omega) rfl rfl rfl rfl rfl ?_
        refine Agg.chRowAt 132 (blkC B) h2.out (by decide +kernel) rfl rfl rfl rfl hcv.out ?_
        refine Agg.chBin (v := .bool (!q)) rfl rfl rfl rfl rfl (fun w => flatBlk.gd .neq _ _ _ _ w) HNQ.out ?_
        refine Agg.chEnd ?_
        intro vs w1 hb _
        refine Agg.wpNil ?_
        simp only [List.reverse, List.reverseAux, Agg.fill, List.set_cons_succ, List.set_cons_zero]
        replace HB := Lib.hid (HB.out.trans (hb.mono HB.out.size))
        clear hb
        cases q
        · obtain rfl : r = false := by rw [← HR.out]; simpa using HNE.out rfl
          rw [show (!false) = true from rfl]
          go_wp2_with fail
          go_ret
          exact ⟨rfl, HB.out⟩
        · rw [show (!true) = false from rfl]
          go_wp2_with fail
          go_roundw
          case rel => exact ⟨k + 1, by omega, by go_num, HB.out, HST.out rfl⟩
          case measure => simp [intOf]; omega
      · obtain rfl : k = P.length := by omega
        obtain rfl : r = true := by
          rw [← HR.out]
          have := HTK.out
          rw [List.take_length, HLE.out, List.take_length] at this
          simpa using this
        go_wp2_with fail
        go_ret
        exact ⟨rfl, HB.out⟩
  · have hne : ((P.length : Int) != Q.length) = true := by simp; omega
    obtain rfl : r = false := by rw [← HR.out]; simp; intro e; exact hlen (by rw [e])
    clear hlen
    go_wp2_with fail
    go_ret
    exact ⟨rfl, HB.out⟩
end Go.Proofs.Ytapdigcpaebjiaa
end
section
/-
  DEVICES: rows of writes compared.
-/
namespace Go.Proofs.Ytapdigcpaebjiaa
open Go.ChangeShapes Go.WideShapes Go.ChangeAt Go.RowKit Agg Pg Dv

/-- a write that can be: its page is a number of 64 bits, its block whole -/
def WOk (x : Int × List Sec) : Prop := (Lit.int .i64 x.1).wf = true ∧ BOk x.2
theorem fits_wr (x : Int × List Sec) (h : WOk x) : Agg.Fits ksWr (wrC x) := ⟨⟨_, rfl, h.1⟩, fits_blk x.2 h.2⟩
theorem wrC_inj {a b : Int × List Sec} (h : wrC a = wrC b) (ha : WOk a) (hb : WOk b) : a = b := by
  unfold wrC at h
  simp only [List.cons.injEq, Value.int.injEq, true_and] at h
  exact Prod.ext h.1 (blkC_inj h.2 ha.2 hb.2)
theorem wr_neq (a b : Int × List Sec) (ha : WOk a) (hb : WOk b) (r : Bool) (hr : decide (a = b) = r) (w : World) : (binOp .neq 48 (.agg (wrC a).toArray) (.agg (wrC b).toArray)).run Try.prog w = .ok (.bool (!r)) w :=
  flatWr.neq (fits_wr a ha) (fits_wr b hb) r (by rw [← hr, decide_eq_true_eq]; exact ⟨fun e => by rw [e], fun e => wrC_inj e ha hb⟩) w
set_option maxHeartbeats 2000000 in
set_option maxRecDepth 100000 in
theorem equalW_any (P Q : List (Int × List Sec)) (u v : Value) (w : World) (hu : Wrs w u P) (hv : Wrs w v Q) (hP : ∀ b ∈ P, WOk b) (hQ : ∀ b ∈ Q, WOk b) (r : Bool) (hr : decide (P = Q) = r) :
    Calls Try.prog 36 #[u, v] w fun e w' => e = .returned (.bool r) ∧ Below w.heap.size w w' := by
  obtain ⟨x, cap, rfl, hc1, hc2⟩ := SlR.shape hu
  obtain ⟨y, dap, rfl, hd1, hd2⟩ := SlR.shape hv
  unfold maxLen at hc2 hd2
  have HU := Lib.hid hu
  have HV := Lib.hid hv
  have HP := Lib.hid hP
  have HQ := Lib.hid hQ
  have HR := Lib.hid hr
  have HCP : Hid (∀ b ∈ P, (wrC b).length = 133) := Lib.hid (fun b hb => wrC_length b (hP b hb).2)
  have HCQ : Hid (∀ b ∈ Q, (wrC b).length = 133) := Lib.hid (fun b hb => wrC_length b (hQ b hb).2)
  clear hu hv hP hQ hr
  have HB := Lib.hid (Below.refl w.heap.size w)
  go_enter Try.func36, Try.ntmps36
  by_cases hlen : P.length = Q.length
  · have HLE := Lib.hid hlen
    rw [← hlen] at HV hd1 ⊢
    clear hlen
    have hne : ((P.length : Int) != P.length) = false := by simp
    go_wp2_with fail
    clear hne
    go_loopw [13] (fun i wr => ∃ k : Nat, k ≤ P.length ∧ i = .int .i64 k ∧ Below w.heap.size w wr ∧ P.take k = Q.take k) (fun i _ => P.length - (intOf i).toNat)
    case atStart => exact ⟨0, by omega, rfl, Below.refl _ _, rfl⟩
    case round =>
      obtain ⟨k, hk, rfl, hb, htk⟩ := hrel
      replace HB := Lib.hid hb
      have HTK := Lib.hid htk
      have HU2 := Lib.hid (HU.out.keep HB.out)
      clear hb htk
      have hv2 : SlR wr (.slice y P.length dap) 133 Q.length (Q.flatMap wrC) := SlR.keep HV.out HB.out
      have HV2 := Lib.hid hv2
      clear hv2
      by_cases hlt : k < P.length
      · have hltq : k < Q.length := by have := HLE.out; omega
        obtain ⟨b, o, cap', hve, _, _, _, _⟩ := SlR.pos HU2.out (by decide) (by omega)
        simp only [Value.slice.injEq, true_and] at hve
        obtain ⟨rfl, rfl⟩ := hve
        obtain ⟨b2, o2, cap2, hve, _, _, _, _⟩ := SlR.pos HV2.out (by decide) (by omega)
        simp only [Value.slice.injEq, true_and] at hve
        obtain ⟨rfl, _, rfl⟩ := hve
        have hcu := Lib.hid (flat_at wrC 133 (by decide) HU2.out HCP.out hlt)
        have hcv := Lib.hid (flat_at wrC 133 (by decide) HV2.out HCQ.out hltq)
        have h1 := Lib.hid (HCP.out _ (List.getElem_mem hlt))
        have h2 := Lib.hid (HCQ.out _ (List.getElem_mem hltq))
        obtain ⟨q, hq⟩ : ∃ q, decide (P[k] = Q[k]) = q := ⟨_, rfl⟩
        have HNQ := Lib.hid (wr_neq P[k] Q[k] (HP.out _ (List.getElem_mem hlt)) (HQ.out _ (List.getElem_mem hltq)) q hq)
        have HQ2 := Lib.hid hq
        have HST : Hid (q = true → P.take (k + 1) = Q.take (k + 1)) := by
          refine Lib.hid (fun e => ?_)
          rw [e, decide_eq_true_eq] at hq
          rw [List.take_succ_eq_append_getElem hlt, List.take_succ_eq_append_getElem hltq, HTK.out, hq]
        have HNE : Hid (q = false → P ≠ Q) := by
          refine Lib.hid (fun e he => ?_)
          rw [e, decide_eq_false_iff_not] at hq
          exact hq (by subst he; rfl)
        clear hq
        generalize P[k] = A at *
        generalize Q[k] = B at *
        go_upto_region 6 with (fail)
        refine Agg.chainR 9 (by kernel_rfl) (by kernel_rfl) ?_
        simp only [List.take_succ_cons, List.take_zero, List.drop_succ_cons, List.drop_zero]
        refine Agg.chMove rfl rfl rfl rfl ?_
        refine Agg.chMove rfl rfl rfl rfl ?_
        refine Agg.chIA tiW (by omega) (by omega) rfl rfl rfl rfl rfl ?_
        refine Agg.chRowAt 133 (wrC A) h1.out (by decide +kernel) rfl rfl rfl rfl hcu.out ?_
        refine Agg.chMove rfl rfl rfl rfl ?_
        refine Agg.chMove rfl rfl rfl rfl ?_
        refine Agg.chIA tiW (by omega) (by omega) rfl rfl rfl rfl rfl ?_
        refine Agg.chRowAt 133 (wrC B) h2.out (by decide +kernel) rfl rfl rfl rfl hcv.out ?_
        refine Agg.chBin (v := .bool (!q)) rfl rfl rfl rfl rfl (fun w => flatWr.gd .neq _ _ _ _ w) HNQ.out ?_
        refine Agg.chEnd ?_
        intro vs w1 hb _
        refine Agg.wpNil ?_
        simp only [List.reverse, List.reverseAux, Agg.fill, List.set_cons_succ, List.set_cons_zero]
        replace HB := Lib.hid (HB.out.trans (hb.mono HB.out.size))
        clear hb
        cases q
        · obtain rfl : r = false := by rw [← HR.out]; simpa using HNE.out rfl
          rw [show (!false) = true from rfl]
          go_wp2_with fail
          go_ret
          exact ⟨rfl, HB.out⟩
        · rw [show (!true) = false from rfl]
          go_wp2_with fail
          go_roundw
          case rel => exact ⟨k + 1, by omega, by go_num, HB.out, HST.out rfl⟩
          case measure => simp [intOf]; omega
      · obtain rfl : k = P.length := by omega
        obtain rfl : r = true := by
          rw [← HR.out]
          have := HTK.out
          rw [List.take_length, HLE.out, List.take_length] at this
          simpa using this
        go_wp2_with fail
        go_ret
        exact ⟨rfl, HB.out⟩
  · have hne : ((P.length : Int) != Q.length) = true := by simp; omega
    obtain rfl : r = false := by rw [← HR.out]; simp; intro e; exact hlen (by rw [e])
    clear hlen
    go_wp2_with fail
    go_ret
    exact ⟨rfl, HB.out⟩
end Go.Proofs.Ytapdigcpaebjiaa
end
