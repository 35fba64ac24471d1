/-
  DEVICES: pages of noughts.
-/
import Derived.Test.YtjnnnnolikbjcaaRDv7
import Derived.Test.YtjnnnnolikbjcaaGood
import Derived.Test.YtjnnnnolikbjcaaCopy
import Derived.Test.YtjnnnnolikbjcaaChain2
import Derived.Test.YtjnnnnolikbjcaaAgg2
import Derived.Test.YtjnnnnolikbjcaaKn
section
namespace Go.Proofs.Ytjnnnnolikbjcaa
open Go.ChangeShapes Go.WideShapes Go.ChangeAt Go.RowKit Agg Pg Dv

theorem made_pages (n : Nat) : (madeCells (Value.cells (.agg (blkC zeroB).toArray)) (n * 132)).toList = (List.replicate n zeroB).flatMap blkC := by
  apply List.ext_getElem?
  intro i
  by_cases h : i < n * 132
  · have h1 : i / 132 < (List.replicate n zeroB).length := by rw [List.length_replicate]; omega
    have h2 : i % 132 < (blkC zeroB).length := by rw [zero132]; omega
    have h3 := flat_cells blkC 132 (l := List.replicate n zeroB) (fun b hb => by rw [List.eq_of_mem_replicate hb]; exact zero132) (i / 132) h1 (i % 132) ((blkC zeroB)[i % 132]) (by rw [List.getElem_replicate]; exact List.getElem?_eq_getElem h2)
    rw [show i / 132 * 132 + i % 132 = i by omega] at h3
    rw [h3]
    simp [madeCells, Value.cells, h, zero132]
    rw [List.getElem?_eq_getElem h2]; rfl
  · rw [List.getElem?_eq_none (by simp [size_madeCells]; omega), List.getElem?_eq_none]
    rw [flat_len blkC 132 _ (fun b hb => by rw [List.eq_of_mem_replicate hb]; exact zero132), List.length_replicate]; omega
theorem dev0_size : (#[.slice none 0 0, .slice none 0 0, .int .i64 0, .bool false] : Array Value).size = 4 := rfl
end Go.Proofs.Ytjnnnnolikbjcaa
end
section
/-
  DEVICES: New.
-/
namespace Go.Proofs.Ytjnnnnolikbjcaa
open Go.ChangeShapes Go.WideShapes Go.ChangeAt Go.RowKit Agg Pg Dv

set_option maxHeartbeats 4000000 in
set_option maxRecDepth 100000 in
theorem new_any (n : Nat) (h24 : 24 ≤ n) (h256 : n ≤ 256) (w : World) :
    Calls Try.prog 10 #[.int .i64 (n : Int)] w fun e w' => ∃ p, e = .returned (.tuple #[.agg #[p, .slice none 0 0, .int .i64 (-1), .bool false], .int .i64 0]) ∧ w'.ownsRow w.heap.size 38 132 p n ((List.replicate n zeroB).flatMap blkC) ∧ Below w.heap.size w w' := by
  have g1 : ¬ (n : Int) < 24 := by omega
  have g2 : ¬ (n : Int) > 256 := by omega
  have hn2 : (n : Int) ≤ 256 := by omega
  have HB := Lib.hid (Below.refl w.heap.size w)
  go_enter Try.func10, Try.ntmps10
  go_upto_region 3 with (fail)
  refine Agg.wp_at fun w1 hw1 => ?_
  have hb : Below w.heap.size w w1 := by rw [hw1.out]; repeat (first | exact Below.refl _ _ | refine Agg.bel_drew ?_ | refine Agg.bel_alloc ?_ _)
  replace HB := Lib.hid (HB.out.trans (hb.mono HB.out.size))
  clear hb
  have H2 : Hid (Blk w1 w.heap.size 30 [.slice none 0 0, .slice none 0 0, .int .i64 0, .bool false]) := by show Blk _ _ _ _; rw [hw1.out]; exact Blk.new w 30 #[.slice none 0 0, .slice none 0 0, .int .i64 0, .bool false]
  have HSW : Hid (w1.heap.size = w.heap.size + 1) := by show _ = _; rw [hw1.out]; simp
  clear hw1
  have hlit := World.ownsRow_lit (e := 38) (size := 132) (base := w.heap.size) w1 (madeCells (Value.cells (.agg (blkC zeroB).toArray)) (n * 132)) n (by have := HSW.out; omega) (by unfold maxLen; omega) (size_madeCells _ _)
  rw [made_pages] at hlit
  have h2 := H2.out.al (.cells (madeCells (Value.cells (.agg (blkC zeroB).toArray)) (n * 132)) 38)
  have hb2 := HB.out.trans (bel_alloc (Below.refl _ w1) (.cells (madeCells (Value.cells (.agg (blkC zeroB).toArray)) (n * 132)) 38) |>.mono HB.out.size)
  go_wp2_with (first
    | (refine Agg.make tiBl _ _ rfl rfl n n rfl rfl rfl rfl (Nat.le_refl _) (by omega) (by unfold maxLen; omega) ?_; simp only [Act.put, List.setIfInBounds_toArray, List.set_cons_succ, List.set_cons_zero])
    | (refine Agg.gStoreB 4 [.slice (some ⟨w1.heap.size, 0, none⟩) n n, .slice none 0 0, .int .i64 (-1), .bool false] h2 rfl rfl rfl rfl rfl (by decide +kernel) rfl rfl (by simp [Value.oneCell']) (fun w14 hb14 hg14 => ?_)))
  refine bodyPost_ret (results_row2 (m := 4) rfl hb14 rfl (by decide +kernel) rfl) rfl ⟨_, rfl, hlit.kept hg14 (.inr (by have := HSW.out; simp [Value.ownBlock]; omega)), ?_⟩
  exact hb2.trans (grown_below hg14 hb2.size (fun j hj => (by cases hj; exact Nat.le_refl _)))
set_option maxHeartbeats 4000000 in
set_option maxRecDepth 100000 in
theorem new_bad (k : Int) (h : k < 24 ∨ 256 < k) (w : World) :
    Calls Try.prog 10 #[.int .i64 k] w fun e w' => e = .returned (.tuple #[.agg #[.slice none 0 0, .slice none 0 0, .int .i64 0, .bool false], .int .i64 2]) ∧ Below w.heap.size w w' := by
  have HH := Lib.hid h
  clear h
  have HB := Lib.hid (Below.refl w.heap.size w)
  go_enter Try.func10, Try.ntmps10
  have hz : ∀ w1 : World, (Instr.build 30 #[]).run Try.prog w1 = .ok (.agg #[.slice none 0 0, .slice none 0 0, .int .i64 0, .bool false]) w1 := fun _ => by kernel_rfl
  have HZ := Lib.hid hz
  clear hz
  have h2 := Blk.new w 30 #[.slice none 0 0, .slice none 0 0, .int .i64 0, .bool false]
  have hb2 := bel_alloc HB.out (.cells #[.slice none 0 0, .slice none 0 0, .int .i64 0, .bool false] 30)
  by_cases h1 : k < 24
  · go_wp2_with (first
      | (refine Agg.gBuild0 (.agg #[.slice none 0 0, .slice none 0 0, .int .i64 0, .bool false]) rfl rfl (fun _ => HZ.out _) ?_; simp only [Act.put, List.setIfInBounds_toArray, List.set_cons_succ, List.set_cons_zero])
      | (refine Agg.gStoreB 4 [.slice none 0 0, .slice none 0 0, .int .i64 0, .bool false] h2 rfl rfl rfl rfl rfl (by decide +kernel) rfl rfl (by simp [Value.oneCell']) (fun w14 hb14 hg14 => ?_)))
    refine bodyPost_ret (results_row2 (m := 4) rfl hb14 rfl (by decide +kernel) rfl) rfl ⟨rfl, ?_⟩
    exact hb2.trans (grown_below hg14 hb2.size (fun j hj => (by cases hj; exact Nat.le_refl _)))
  · have h3 : k > 256 := by have := HH.out; omega
    go_wp2_with (first
      | (refine Agg.gBuild0 (.agg #[.slice none 0 0, .slice none 0 0, .int .i64 0, .bool false]) rfl rfl (fun _ => HZ.out _) ?_; simp only [Act.put, List.setIfInBounds_toArray, List.set_cons_succ, List.set_cons_zero])
      | (refine Agg.gStoreB 4 [.slice none 0 0, .slice none 0 0, .int .i64 0, .bool false] h2 rfl rfl rfl rfl rfl (by decide +kernel) rfl rfl (by simp [Value.oneCell']) (fun w14 hb14 hg14 => ?_)))
    refine bodyPost_ret (results_row2 (m := 4) rfl hb14 rfl (by decide +kernel) rfl) rfl ⟨rfl, ?_⟩
    exact hb2.trans (grown_below hg14 hb2.size (fun j hj => (by cases hj; exact Nat.le_refl _)))
end Go.Proofs.Ytjnnnnolikbjcaa
end
section
/-
  DEVICES: == of blocks and of writes; rows of them compared.
-/
namespace Agg
open Go Go.ChangeShapes Go.WideShapes Go.ChangeAt Go.RowKit
section
variable {n kk : Nat} {P : Program} {l rest : List Oper} {W : World} {l0 : List Value} {ds : List Deferred} {acc : List R} {o : Oper} {fin : List R → Prop}
/-- a row of cells, wherever it lies -/
theorem chRowAt (m : Nat) (cs : List Value) (hm : cs.length = m) {b f : Nat} {t : TypeId} {y : Operand} (ht : aggT P t m = true) (ho : o.op = .load t y) (hy : rd (l.take n) l0 kk acc o y = some (.pointer (some ⟨b, f, none⟩))) (hw : wants kk acc o = some true) (hk : gOk l o = true)
    (hc : ∀ i v, cs[i]? = some v → W.cell? ⟨b, f + i, none⟩ = some v)
    (h : ChainR n P l.toArray W ⟨l0.toArray, ds⟩ (kk + 1) ((.pure (.agg cs.toArray)) :: acc) rest fin) : ChainR n P l.toArray W ⟨l0.toArray, ds⟩ kk acc (o :: rest) fin := by
  subst hm
  simp only [aggT, Bool.and_eq_true, beq_iff_eq] at ht
  obtain ⟨e1, e2⟩ := ht
  cases hu : P.underlying t with
  | none => simp [hu] at e1
  | some d =>
    refine chLoadRow d cs ho hy hw hk hu ?_ e2 (fun i v hi => ?_) h
    · cases d <;> simp [hu] at e1 <;> rfl
    · rw [add_none]; exact hc i v hi
end
end Agg
namespace Go.Proofs.Ytjnnnnolikbjcaa
open Go.ChangeShapes Go.WideShapes Go.ChangeAt Go.RowKit Agg Pg Dv

def ksSec : List (Option IntKind) := some .u64 :: List.replicate 32 (some .u8)
def ksBlk : List (Option IntKind) := (List.replicate 4 ksSec).flatten
set_option maxRecDepth 100000 in
theorem flatBlk : Flat Try.prog 5 38 ksBlk := ⟨by kernel_rfl, by kernel_rfl, by kernel_rfl, by kernel_rfl, by decide, by kernel_rfl⟩
theorem fits_bv (l : List UInt8) : Agg.Fits (List.replicate l.length (some .u8)) (bv l) := by
  induction l with
  | nil => trivial
  | cons c r ih =>
    refine ⟨⟨_, rfl, ?_⟩, ih⟩
    have := c.toNat_lt
    simp [Lit.wf, IntKind.min, IntKind.max, IntKind.signed, IntKind.bits]; omega
theorem fits_sec (s : Sec) (h : s.2.length = 32) (hs : s.1 < 18446744073709551616) : Agg.Fits ksSec (secC s) := by
  refine ⟨⟨_, rfl, ?_⟩, ?_⟩
  · simp [Lit.wf, IntKind.min, IntKind.max, IntKind.signed, IntKind.bits]; omega
  · have := fits_bv s.2
    rwa [h] at this
theorem fits_blk (b : List Sec) (hb : BOk b) : Agg.Fits ksBlk (blkC b) := by
  have h := Agg.Fits.mkRep (l := ksSec) (cs := b.map secC) (fun c hc => by
    obtain ⟨s, hs, rfl⟩ := List.mem_map.1 hc
    exact fits_sec s (hb.2 s hs).1 (hb.2 s hs).2)
  rw [List.length_map, hb.1] at h
  exact h
theorem blkC_inj {a b : List Sec} (h : blkC a = blkC b) (ha : BOk a) (hb : BOk b) : a = b := by
  apply List.ext_getElem (by rw [ha.1, hb.1])
  intro i h1 h2
  have e1 := blkC_sec a ha.len i h1 []
  have e2 := blkC_sec b hb.len i h2 []
  rw [h, e2] at e1
  have hs : secC b[i] = secC a[i] := e1
  unfold secC at hs
  simp only [List.cons.injEq, Value.int.injEq, true_and] at hs
  obtain ⟨p, q⟩ := hs
  have hbv : ∀ l m : List UInt8, bv l = bv m → l = m := by
    intro l
    induction l with
    | nil => intro m hm; cases m with | nil => rfl | cons _ _ => simp [bv] at hm
    | cons c r ih =>
      intro m hm
      cases m with
      | nil => simp [bv] at hm
      | cons c' r' =>
        simp only [bv, List.map_cons, List.cons.injEq, Value.int.injEq, true_and] at hm
        rw [UInt8.toNat_inj.1 (Int.ofNat.inj hm.1), ih r' hm.2]
  exact Prod.ext (Int.ofNat.inj p).symm (hbv _ _ q).symm
theorem blk_neq (a b : List Sec) (ha : BOk a) (hb : BOk b) (r : Bool) (hr : decide (a = b) = r) (w : World) : (binOp .neq 38 (.agg (blkC a).toArray) (.agg (blkC b).toArray)).run Try.prog w = .ok (.bool (!r)) w :=
  flatBlk.neq (fits_blk a ha) (fits_blk b hb) r (by rw [← hr, decide_eq_true_eq]; exact ⟨fun e => by rw [e], fun e => blkC_inj e ha hb⟩) w
theorem blk_eql (a b : List Sec) (ha : BOk a) (hb : BOk b) (r : Bool) (hr : decide (a = b) = r) (w : World) : (binOp .eql 38 (.agg (blkC a).toArray) (.agg (blkC b).toArray)).run Try.prog w = .ok (.bool r) w :=
  flatBlk.eql (fits_blk a ha) (fits_blk b hb) r (by rw [← hr, decide_eq_true_eq]; exact ⟨fun e => by rw [e], fun e => blkC_inj e ha hb⟩) w
def ksWr : List (Option IntKind) := some .i64 :: ksBlk
set_option maxRecDepth 100000 in
theorem flatWr : Flat Try.prog 6 88 ksWr := ⟨by kernel_rfl, by kernel_rfl, by kernel_rfl, by kernel_rfl, by decide, by kernel_rfl⟩
end Go.Proofs.Ytjnnnnolikbjcaa
end
section
/-
  DEVICES: rows of writes compared.
-/
namespace Go.Proofs.Ytjnnnnolikbjcaa
open Go.ChangeShapes Go.WideShapes Go.ChangeAt Go.RowKit Agg Pg Dv

/-- a write that can be: its page is a number of 64 bits, its block whole -/
def WOk (x : Int × List Sec) : Prop := (Lit.int .i64 x.1).wf = true ∧ BOk x.2
theorem fits_wr (x : Int × List Sec) (h : WOk x) : Agg.Fits ksWr (wrC x) := ⟨⟨_, rfl, h.1⟩, fits_blk x.2 h.2⟩
theorem wrC_inj {a b : Int × List Sec} (h : wrC a = wrC b) (ha : WOk a) (hb : WOk b) : a = b := by
  unfold wrC at h
  simp only [List.cons.injEq, Value.int.injEq, true_and] at h
  exact Prod.ext h.1 (blkC_inj h.2 ha.2 hb.2)
theorem wr_neq (a b : Int × List Sec) (ha : WOk a) (hb : WOk b) (r : Bool) (hr : decide (a = b) = r) (w : World) : (binOp .neq 88 (.agg (wrC a).toArray) (.agg (wrC b).toArray)).run Try.prog w = .ok (.bool (!r)) w :=
  flatWr.neq (fits_wr a ha) (fits_wr b hb) r (by rw [← hr, decide_eq_true_eq]; exact ⟨fun e => by rw [e], fun e => wrC_inj e ha hb⟩) w
end Go.Proofs.Ytjnnnnolikbjcaa
end
section
/-
  DEVICES: Same.
-/
namespace Go.Proofs.Ytjnnnnolikbjcaa
open Go.ChangeShapes Go.WideShapes Go.ChangeAt Go.RowKit Agg Pg Dv

end Go.Proofs.Ytjnnnnolikbjcaa
end
section
/-
  DEVICES: rows of numbers cloned.
-/
namespace Go.Proofs.Ytjnnnnolikbjcaa
open Go.ChangeShapes Go.WideShapes Go.ChangeAt Go.RowKit Agg Pg Dv

/-- numbers as cells -/
def iC (l : List Int) : List Value := l.map fun d => Value.int .i64 d
theorem iC_one (l : List Int) : ∀ u ∈ iC l, u.oneCell' = true := by
  intro u hu
  obtain ⟨d, _, rfl⟩ := List.mem_map.1 hu
  rfl
abbrev Ints (w : World) (v : Value) (l : List Int) : Prop := SlR w v 1 l.length (iC l)
theorem tiInt : TI Try.prog 24 3 1 8 (.int .i64 0) := ⟨by kernel_rfl, by kernel_rfl, rfl, by decide⟩
end Go.Proofs.Ytjnnnnolikbjcaa
end
section
/-
  APPEND to a fresh literal: append([]T{}, xs...), in a region that draws its order. Over any program.
-/
namespace Agg
open Go Go.RowKit
theorem run_append_fresh {P : Program} {t e : TypeId} {size bytes : Nat} {z : Value} (T : TI P t e size bytes z) (ty : TypeId) (w : World) {g b0 : Nat} (hb : b0 ≤ g) (hB : Blk w g e []) {xv : Value} {m : Nat} {news : List Value}
    (hsl : SlR w xv size m news) (h1 : ∀ u ∈ news, u.oneCell' = true) (h63 : m ≤ maxLen) (hbytes : m * bytes ≤ 140737488355328) :
    ∃ v' w', (Builtin.append_ #[t, t] ty #[.slice (some ⟨g, 0, none⟩) 0 0, xv]).run P w = .ok v' w' ∧ w'.ownsRow (Nat.min b0 w.heap.size) e size v' m news ∧ Below w.heap.size w w' := by
  have hown : w.ownsRow (Nat.min b0 w.heap.size) e size (.slice (some ⟨g, 0, none⟩) 0 0) 0 [] := by
    refine ⟨by simp, .inr ⟨g, 0, #[], rfl, Nat.le_trans (Nat.min_le_left _ _) hb, hB, Nat.le_refl _, by decide, by simp, by simp⟩⟩
  obtain ⟨i, hi, hz, hs, hb2⟩ := T.info
  rcases hsl.2 with ⟨rfl, rfl⟩ | ⟨x, cap, rfl, h3, h4, h5⟩
  · have hn : news = [] := List.eq_nil_of_length_eq_zero (by rw [hsl.1]; simp)
    subst hn
    exact ⟨_, w, run_append_owned_none w _ t ty e i size T.ht hi _ 0 [] hown, hown, Below.refl _ _⟩
  · rcases Nat.eq_zero_or_pos m with hm | hm
    · subst hm
      have hn : news = [] := List.eq_nil_of_length_eq_zero (by rw [hsl.1]; simp)
      subst hn
      refine ⟨_, w, ?_, hown, Below.refl _ _⟩
      simp [Builtin.append_, run_underlying T.ht, Go.sizeOf, typeInfo, hi, Builtin.lenOf, Builtin.firstCells, storeCells, loadCells, loadCellsFrom]
    · have hsz := T.hsz
      obtain ⟨v', w', hr, h2, hg, _⟩ := run_append_sl T ty w (Nat.min b0 w.heap.size) hown hsl h1 (by omega) (by simpa using hbytes) (Nat.min_le_right _ _)
      have hm' : m ≤ 9223372036854775807 := by unfold maxLen at h63; omega
      have hrun := run_append_grow (P := P) w t ty e i z T.ht hi hz ⟨g, 0, none⟩ 0 0 [] (by simp) (by simp) x m cap news (by rw [hs]; exact hsl.1) h5 (by omega) (by omega)
          (by rw [hb2]; exact growslice_fits (by omega) (by simpa using hbytes))
      rw [hrun] at hr
      cases hr
      refine ⟨_, _, hrun, by simpa using h2, ?_⟩
      exact ((Below.refl _ w).drew).alloc (Nat.le_refl _) _
/-- a call of a function of the program enters it -/
theorem enters {P : Program} {f : FuncId} {fn : Func} {c : Code} (hf : P.funcs[f]? = some fn) (hname : (fn.name == "runtime.NumGoroutine") = false) (hb : fn.body = some c) (args : Array Value) (w : World) : (callFunc f args).run P w = .ok (.enter f args) w := by
  have h1 : fn.name ≠ "runtime.NumGoroutine" := by simpa using hname
  simp [callFunc, hf, h1, hb, Go.mark]
theorem noP {Q : Exit → Act → World → Prop} {a : Act} {w : World} (h : Q .normal a w) : NoP Q .normal a w := h
/-- a row that was made: it lies beyond b0 -/
def OwnSl (b0 : Nat) (e : TypeId) (size m : Nat) (cs : List Value) (v : Value) (w : World) : Prop := w.ownsRow b0 e size v m cs
theorem OwnSl.stable (b0 : Nat) (e : TypeId) (size m : Nat) (cs : List Value) : Stable (OwnSl b0 e size m cs) := fun _ _ _ h hb => own_keep h hb
section
variable {n kk : Nat} {P : Program} {l rest : List Oper} {W : World} {l0 : List Value} {ds : List Deferred} {acc : List R} {o : Oper} {fin : List R → Prop}
/-- append([]T{}, xs...) -/
theorem chAppendNew {t e : TypeId} {size bytes : Nat} {z : Value} (T : TI P t e size bytes z) {ts : Nat} {x : Operand} (j : Nat) {xv : Value} (m : Nat) (news : List Value) (hsl : SlR W xv size m news)
    (h1 : ∀ u ∈ news, u.oneCell' = true) (h63 : m ≤ maxLen) (hbytes : m * bytes ≤ 140737488355328)
    (ho : o.op = .call { callee := .builtin .append, args := #[.tmp ts, x], argTypes := #[t, t] }) (hd : depL o j = true) (hj : look kk acc j = some (.op (NewSl W.heap.size e 0 []))) (ht : (l[j]?).map (·.dst) = some (some ts))
    (hx : rd (l.take n) l0 kk acc o x = some xv) (hw : wants kk acc o = some true) (hk : gOk l o = true)
    (h : ChainR n P l.toArray W ⟨l0.toArray, ds⟩ (kk + 1) ((.op (OwnSl W.heap.size e size m news)) :: acc) rest fin) : ChainR n P l.toArray W ⟨l0.toArray, ds⟩ kk acc (o :: rest) fin :=
  chRun (r := .op (OwnSl W.heap.size e size m news)) (by rw [ho]; rfl) hw hk (OwnSl.stable _ _ _ _ _) (fun a w hh => by
    obtain ⟨v, hv, ⟨g, rfl, hg0, hgB⟩⟩ := hh.op j ts hd hj ht
    have hx' := hh.rd hx
    obtain ⟨v', w', hr, ho', hb'⟩ := run_append_fresh T o.type w hg0 hgB (hsl.keep hh.below) h1 h63 hbytes
    refine ⟨v', w', ?_, ?_, hb'⟩
    · simp [execOp, ho, resolve, hv, hx', invoke, builtin, hr]
    · rw [show Nat.min W.heap.size w.heap.size = W.heap.size from Nat.min_eq_left hh.below.size] at ho'
      exact ho') h
end
end Agg
end
