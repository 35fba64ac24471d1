/-
  PAGES: what arguments of the statements hold: pages, blocks.
-/
import Derived.Test.YtlddjcilbpcciaaLFpPgH
import Derived.Test.YtlddjcilbpcciaaGood
import Derived.Test.YtlddjcilbpcciaaCopy
import Derived.Test.YtlddjcilbpcciaaAgg2
import Derived.Test.YtlddjcilbpcciaaLFdDw1
import Derived.Test.YtlddjcilbpcciaaLFpPg4
section
namespace Go.Proofs.Ytlddjcilbpcciaa
open Go.ChangeShapes Go.WideShapes Go.ChangeAt Go.RowKit Agg Pg

theorem fits_bytes : ∀ (n : Nat) (cs : List Value), Agg.Fits (List.replicate n (some .u8)) cs → ∃ l : List UInt8, l.length = n ∧ cs = bv l
  | 0, cs, h => ⟨[], rfl, h.nil⟩
  | n + 1, cs, h => by
    rw [List.replicate_succ] at h
    obtain ⟨x, r, rfl, ⟨z, rfl, hz⟩, h2⟩ := Agg.Fits.cons h
    obtain ⟨l, hl, rfl⟩ := fits_bytes n r h2
    simp only [Lit.wf, Bool.and_eq_true, IntKind.min, IntKind.max, IntKind.signed, IntKind.bits] at hz
    have hz2 : 0 ≤ z ∧ z ≤ 255 := by simpa using hz
    refine ⟨UInt8.ofNat z.toNat :: l, by simp [hl], ?_⟩
    have e : ((UInt8.ofNat z.toNat).toNat : Int) = z := by rw [UInt8.toNat_ofNat']; omega
    simp only [bv, List.map_cons, e]
theorem fits_secs : ∀ (n : Nat) (cs : List Value), Agg.Fits (List.replicate n ksSec).flatten cs → ∃ b : List Sec, b.length = n ∧ cs = blkC b ∧ ∀ s ∈ b, s.2.length = 32 ∧ s.1 < 18446744073709551616
  | 0, cs, h => ⟨[], rfl, h.nil, fun s hs => by cases hs⟩
  | n + 1, cs, h => by
    rw [List.replicate_succ, List.flatten_cons] at h
    obtain ⟨h1, h2⟩ := Agg.Fits.cut h
    obtain ⟨b, hb, hc, hok⟩ := fits_secs n _ h2
    obtain ⟨x, r, he, ⟨z, rfl, hz⟩, h3⟩ := Agg.Fits.cons h1
    obtain ⟨l, hl, rfl⟩ := fits_bytes 32 r h3
    simp only [Lit.wf, Bool.and_eq_true, IntKind.min, IntKind.max, IntKind.signed, IntKind.bits] at hz
    have hz2 : 0 ≤ z ∧ z ≤ 18446744073709551615 := by simpa using hz
    refine ⟨(z.toNat, l) :: b, by simp [hb], ?_, ?_⟩
    · rw [blkC_cons, ← hc, secC]
      have e : ((z.toNat : Nat) : Int) = z := by omega
      simp only [e]
      rw [← he, List.take_append_drop]
    · intro s hs
      rcases List.mem_cons.1 hs with rfl | h
      · exact ⟨hl, by simp only; omega⟩
      · exact hok s h
theorem good_block {w : World} {fuel : Nat} {cs : List Value} (h : Agg.Good Try.prog w fuel 54 cs) : ∃ b, cs = blkC b ∧ BOk b := by
  have hf := good_fits fuel 5 54 ksBlk cs (by kernel_rfl) h
  obtain ⟨b, h1, h2, h3⟩ := fits_secs 4 cs hf
  exact ⟨b, h2, h1, h3⟩
theorem good_i64 {w : World} {fuel : Nat} {v : Value} (h : Agg.Good Try.prog w fuel 3 [v]) : ∃ z : Int, v = .int .i64 z ∧ -9223372036854775808 ≤ z ∧ z ≤ 9223372036854775807 := by
  have hf := good_fits fuel 1 3 [some .i64] [v] (by kernel_rfl) h
  obtain ⟨x, r, he, ⟨z, rfl, hz⟩, _⟩ := Agg.Fits.cons hf
  simp only [List.cons.injEq] at he
  simp only [Lit.wf, Bool.and_eq_true, decide_eq_true_eq, IntKind.min, IntKind.max, IntKind.signed, IntKind.bits] at hz
  exact ⟨z, he.1, by simpa using hz⟩
set_option maxRecDepth 100000 in
theorem good_page {w : World} {fuel : Nat} {c : Array Value} (h : Agg.Good Try.prog w fuel 86 c.toList) : ∃ (kind : Int) (dv : Value) (d : List UInt8), c = #[.int .i64 kind, dv] ∧ Bytes w dv d ∧ -9223372036854775808 ≤ kind ∧ kind ≤ 9223372036854775807 := by
  cases fuel with
  | zero => exact h.elim
  | succ n =>
    unfold Agg.Good at h
    rw [Try.underlying86] at h
    simp only at h
    obtain ⟨hl, hf⟩ := h
    have h0 : Agg.Good Try.prog w n 3 ((c.toList.drop 0).take (Try.prog.cellsOf 3)) := hf 0 _ rfl
    have h1 : Agg.Good Try.prog w n 37 ((c.toList.drop 1).take (Try.prog.cellsOf 37)) := hf 1 _ rfl
    have e0 : Try.prog.cellsOf 3 = 1 := by kernel_rfl
    have e1 : Try.prog.cellsOf 37 = 1 := by kernel_rfl
    have e2 : Try.prog.cellsOf 86 = 2 := by kernel_rfl
    rw [e0] at h0
    rw [e1] at h1
    rw [e2] at hl
    obtain ⟨l, hcl⟩ : ∃ l, l = c.toList := ⟨_, rfl⟩
    rw [← hcl] at hl h0 h1
    match l, hl with
    | [a, b], _ =>
      obtain ⟨z, rfl, hz1, hz2⟩ := good_i64 h0
      obtain ⟨d, hd, _⟩ := good_bytes Try.underlying37 Try.underlying5 (by kernel_rfl) h1
      exact ⟨z, b, d, (Array.toList_inj.1 hcl).symm, hd, hz1, hz2⟩
theorem good_blks {w : World} {fuel : Nat} {v : Value} (h : Agg.Good Try.prog w fuel 25 [v]) : ∃ l : List (List Sec), Blks w v l ∧ (∀ b ∈ l, BOk b) ∧ l.length ≤ maxLen := by
  obtain ⟨l, h1, h2, h3⟩ := good_sl (α := {b : List Sec // BOk b}) Try.underlying25 (sz := 132) (by kernel_rfl) (fun b => blkC b.1) (fun _ => True) (fun b => bok_cells b.2) (fun f cs hg => by
    obtain ⟨b, h1, h2⟩ := good_block hg
    exact ⟨⟨b, h2⟩, h1, trivial⟩) h
  refine ⟨l.map (·.1), ?_, fun b hb => ?_, by simpa using h3⟩
  · show SlR _ _ _ _ _
    rw [List.length_map, List.flatMap_map]; exact h1
  · obtain ⟨x, _, rfl⟩ := List.mem_map.1 hb
    exact x.2
end Go.Proofs.Ytlddjcilbpcciaa
end
section
/-
  WHAT IS LEFT OF A SLICE, whatever its elements, wherever it lies. Over any program.
-/
namespace Agg
open Go Go.RowKit
theorem slR_rest {P : Program} {w : World} {t e : TypeId} {sz bytes : Nat} {z : Value} (T : TI P t e sz bytes z) (hsz : 0 < sz) {x : Option Addr} {n cap : Nat} {cs : List Value} (h : SlR w (.slice x n cap) sz n cs) (k : Nat) (hk : k ≤ n) :
    ∃ y c, (∀ w2, (Instr.sliceAt t (.slice x n cap) (some (.int .i64 (k : Int))) none none).run P w2 = .ok (.slice y (n - k) c) w2) ∧ SlR w (.slice y (n - k) c) sz (n - k) (cs.drop (k * sz)) := by
  obtain ⟨_, _, he, hc1, hcm⟩ := SlR.shape h
  cases he
  obtain ⟨i, hi, hz, hs, hb⟩ := T.info
  have hlen := h.1
  by_cases hn : n = 0
  · subst hn
    have hk0 : k = 0 := by omega
    subst hk0
    have hcs : cs = [] := List.eq_nil_of_length_eq_zero (by rw [hlen]; simp)
    subst hcs
    refine ⟨x, cap, fun w2 => ?_, by simpa using h⟩
    cases x with
    | none => simp [Instr.sliceAt, Instr.slice, Instr.sliceBounds, Instr.sliceBound, run_underlying T.ht, asIntOf, Go.sizeOf, typeInfo, hi]
    | some a =>
      by_cases hc : cap = 0
      · subst hc; simp [Instr.sliceAt, Instr.slice, Instr.sliceBounds, Instr.sliceBound, run_underlying T.ht, asIntOf, Go.sizeOf, typeInfo, hi]
      · simp [Instr.sliceAt, Instr.slice, Instr.sliceBounds, Instr.sliceBound, run_underlying T.ht, asIntOf, Go.sizeOf, typeInfo, hi, hc, Addr.add]
  · obtain ⟨b, o, cap', hve, _, _, hcp, _⟩ := SlR.pos h hsz (by omega)
    simp only [Value.slice.injEq, true_and] at hve
    obtain ⟨rfl, rfl⟩ := hve
    have hdl : (cs.drop (k * sz)).length = (n - k) * sz := by rw [List.length_drop, hlen, Nat.sub_mul]
    by_cases hc : k < cap
    · refine ⟨_, _, fun w2 => run_slice_from T b o n cap k hk hc w2, hdl, .inr ⟨_, cap - k, rfl, by omega, by omega, fun j u hj => ?_⟩⟩
      rw [List.getElem?_drop] at hj
      have h2 := hcp _ _ hj
      rw [add_none, ← h2]
      congr 2; omega
    · have hkc : k = cap := by omega
      have hrc : n = k := by omega
      subst hkc
      subst hrc
      refine ⟨some ⟨b, o, none⟩, 0, fun w2 => ?_, hdl, .inr ⟨_, 0, by rw [Nat.sub_self], by omega, Nat.zero_le _, fun j u hj => ?_⟩⟩
      · simp [Instr.sliceAt, Instr.slice, Instr.sliceBounds, Instr.sliceBound, run_underlying T.ht, asIntOf, Go.sizeOf, typeInfo, hi]
      · have := (List.getElem?_eq_some_iff.1 hj).1
        rw [hdl] at this; simp at this
/-- .. and its head -/
theorem slR_head {w : World} {sz : Nat} {x : Option Addr} {n cap : Nat} {cs : List Value} (h : SlR w (.slice x n cap) sz n cs) (k : Nat) (hk : k ≤ n) : SlR w (.slice x k cap) sz k (cs.take (k * sz)) := by
  obtain ⟨hl, h2⟩ := h
  have hlen : (cs.take (k * sz)).length = k * sz := by rw [List.length_take, hl]; exact Nat.min_eq_left (Nat.mul_le_mul_right _ hk)
  refine ⟨hlen, ?_⟩
  rcases h2 with ⟨h3, h4⟩ | ⟨p, cap', hv, h3, h4, h5⟩
  · subst h4
    obtain rfl : k = 0 := by omega
    exact .inl ⟨h3, rfl⟩
  · simp only [Value.slice.injEq] at hv
    obtain ⟨rfl, _, rfl⟩ := hv
    refine .inr ⟨p, cap, rfl, by omega, h4, fun j u hj => h5 j u ?_⟩
    have hj2 := (List.getElem?_eq_some_iff.1 hj).1
    rw [hlen] at hj2
    rwa [List.getElem?_take, if_pos hj2] at hj
theorem gSliceFrom {P : Program} {w : World} {o : Oper} {Q : Exit → Act → World → Prop} {ops : Array Oper} {rest : List Oper} {a : Act} {t : TypeId} {x y : Operand} {u v : Value} (r : Value) (hg : o.guard = none) (ho : o.op = .slice t x (some y) none none) (hx : a.eval x = u) (hy : a.eval y = v) (hr : ∀ w2, (Instr.sliceAt t u (some v) none none).run P w2 = .ok r w2)
    (h : wpList P ops Q rest (a.put o.dst r) w) : wpList P ops Q (o :: rest) a w := by
  refine Agg.run hg r w ?_ h
  simp only [execOp, ho, Option.map_some, Option.map_none, hx, hy, hr, Sem.run_bind, Result.andThen_ok, Sem.run_pure]
theorem gSliceUp {P : Program} {w : World} {o : Oper} {Q : Exit → Act → World → Prop} {ops : Array Oper} {rest : List Oper} {a : Act} {t : TypeId} {x y : Operand} {u v : Value} (r : Value) (hg : o.guard = none) (ho : o.op = .slice t x none (some y) none) (hx : a.eval x = u) (hy : a.eval y = v) (hr : ∀ w2, (Instr.sliceAt t u none (some v) none).run P w2 = .ok r w2)
    (h : wpList P ops Q rest (a.put o.dst r) w) : wpList P ops Q (o :: rest) a w := by
  refine Agg.run hg r w ?_ h
  simp only [execOp, ho, Option.map_some, Option.map_none, hx, hy, hr, Sem.run_bind, Result.andThen_ok, Sem.run_pure]
/-- a literal of one row -/
theorem gLit1 {P : Program} {w : World} {o : Oper} {Q : Exit → Act → World → Prop} {ops : Array Oper} {rest : List Oper} {a : Act} {t e : TypeId} {x : Operand} (cs : List Value) (hg : o.guard = none) (ho : o.op = .buildSlice t 1 #[(0, x)]) (hx : a.eval x = .agg cs.toArray)
    (hr : ∀ w2, (Instr.buildSlice t 1 #[(0, .agg cs.toArray)]).run P w2 = .ok (.slice (some ⟨w2.heap.size, 0, none⟩) 1 1) (w2.alloc (.cells cs.toArray e)))
    (h : wpList P ops Q rest (a.put o.dst (.slice (some ⟨w.heap.size, 0, none⟩) 1 1)) (w.alloc (.cells cs.toArray e))) : wpList P ops Q (o :: rest) a w := by
  refine run hg _ _ ?_ h
  simp [execOp, ho, hx, hr]
/-- a call at a region's end -/
theorem tCall {P : Program} {w : World} {o : Oper} {Q : Exit → Act → World → Prop} {ops : Array Oper} {rest : List Oper} {a : Act} {f : FuncId} {fn : Func} (hf : P.funcs[f]? = some fn) (hbody : fn.body.isNone = false) (hname : (fn.name == "runtime.NumGoroutine") = false)
    {args : List Operand} {ts : Array TypeId} {vs : List Value} (hg : o.guard = none) (ho : o.op = .call { callee := .value (.func f), args := args.toArray, argTypes := ts }) (ha : args.map a.eval = vs)
    (hc : Calls P f vs.toArray w fun e w' => ∃ v, e = .returned v ∧ wpList P ops Q rest (a.put o.dst v) w') : wpList P ops Q (o :: rest) a w :=
  wpList_plain hg fun _ hK => by
    have hr : (execOp a.eval o).run P w = .ok (.enter f vs.toArray) w := by
      have n1 : ¬ fn.name = "runtime.NumGoroutine" := by simpa using hname
      have n2 : ¬ fn.body = none := by intro e; rw [e] at hbody; cases hbody
      rw [← ha]
      simp [execOp, ho, resolve, Act.eval, invoke, callFunc, hf, n1, n2, Deferred.ofValue]
    unfold Oper.wp
    rw [hr]
    refine hc.mono ?_
    rintro e w' ⟨v, rfl, h⟩
    exact hK _ _ h
/-- a struct of which but one field is told -/
theorem gBuildA {P : Program} {w : World} {o : Oper} {Q : Exit → Act → World → Prop} {ops : Array Oper} {rest : List Oper} {a : Act} {t : TypeId} {k : Nat} {x : Operand} {u : Value} (v : Value) (hg : o.guard = none) (ho : o.op = .build t #[(k, x)]) (hx : a.eval x = u) (hr : ∀ w2, (Instr.build t #[(k, u)]).run P w2 = .ok v w2)
    (h : wpList P ops Q rest (a.put o.dst v) w) : wpList P ops Q (o :: rest) a w := by
  refine run hg v w ?_ h
  simp [execOp, ho, hx, hr]
end Agg
end
section
/-
  THE LENGTH of a slice of which only that is known, as an operation of a region. Over any program.
-/
namespace Agg
open Go Go.RowKit
section
variable {n kk : Nat} {P : Program} {l rest : List Oper} {W : World} {l0 : List Value} {ds : List Deferred} {acc : List R} {o : Oper} {fin : List R → Prop}
theorem chLenO {t e : TypeId} (ht : P.underlying t = some (.slice e)) {ts : Nat} (m : Nat) (j : Nat) {g : Value → World → Prop} (hl : ∀ v w, g v w → ∃ y c, v = .slice y m c) (ho : o.op = .call { callee := .builtin .len, args := #[.tmp ts], argTypes := #[t] }) (hd : depL o j = true) (hj : look kk acc j = some (.op g)) (ht2 : (l[j]?).map (·.dst) = some (some ts)) (hw : wants kk acc o = some true) (hk : gOk l o = true)
    (h : ChainR n P l.toArray W ⟨l0.toArray, ds⟩ (kk + 1) ((.pure (.int .i64 (m : Int))) :: acc) rest fin) : ChainR n P l.toArray W ⟨l0.toArray, ds⟩ kk acc (o :: rest) fin :=
  chPure (by rw [ho]; rfl) hw hk (fun a w hh w' => by
    obtain ⟨u, hu, hg⟩ := hh.op j ts hd hj ht2
    obtain ⟨y, c, rfl⟩ := hl u w hg
    simp [execOp, ho, resolve, hu, invoke, builtin, Builtin.len_, goInt, run_underlying ht]) h
end
end Agg
end
section
/-
  THE LOG: how many pages a group has.
-/
namespace Lg
/-- how many pages a group has -/
def needL (n : Int) : Int := if n < 1 then 0 else (n - 1) / 118 + 1
theorem needL_step {n : Int} (h : 0 < n) : needL n = needL (n - 118) + 1 := by
  unfold needL
  by_cases h2 : n - 118 < 1
  · rw [if_neg (by omega), if_pos h2]; omega
  · rw [if_neg (by omega), if_neg h2]; omega
theorem needL_zero {n : Int} (h : n ≤ 0) : needL n = 0 := by unfold needL; rw [if_pos (by omega)]
end Lg
namespace Go.Proofs.Ytlddjcilbpcciaa
open Go.ChangeShapes Go.WideShapes Go.ChangeAt Go.RowKit Agg Pg Dv Lg
attribute [local go_sem] Oper.semAt_some

theorem need_any (n : Int) (h1 : -9223372036854775808 ≤ n) (h2 : n ≤ 9223372036854775807) (w : World) :
    Calls Try.prog 10 #[.int .i64 n] w fun e w' => e = .returned (.int .i64 (needL n)) ∧ Below w.heap.size w w' := by
  obtain ⟨r, hr⟩ : ∃ r, needL n = r := ⟨_, rfl⟩
  rw [hr]
  unfold needL at hr
  have HR := Lib.hid hr
  clear hr
  have HB := Lib.hid (Below.refl w.heap.size w)
  go_enter Try.func10, Try.ntmps10
  by_cases h3 : n < 1
  · obtain rfl : r = 0 := by rw [← HR.out, if_pos h3]
    go_wp2_with fail
    go_ret
    exact ⟨rfl, HB.out⟩
  · have hrr := HR.out
    rw [if_neg h3] at hrr
    go_upto_region 3 with (fail)
    refine Agg.listR 5 (by kernel_rfl) ?_
    simp only [List.take_succ_cons, List.take_zero, List.drop_succ_cons, List.drop_zero]
    refine Agg.chMove rfl rfl rfl rfl ?_
    refine Agg.chAr64 rfl rfl rfl rfl (by omega) (by omega) rfl rfl ?_
    refine Agg.chQuo ((n - 1) / 118) rfl rfl rfl (by decide) (by rw [IntKind.wrap_i64, Int.tdiv_eq_ediv_of_nonneg (by omega)]; omega) rfl rfl ?_
    refine Agg.chAr64 rfl rfl rfl rfl (by omega) (by omega) rfl rfl ?_
    refine Agg.chAssign rfl rfl rfl rfl ?_
    refine Agg.chEnd ?_
    intro vs w1 hb _
    show Exit.then _ _ Exit.normal _ _
    simp only [List.reverse, List.reverseAux, Agg.fill, List.set_cons_succ, List.set_cons_zero]
    replace HB := Lib.hid (HB.out.trans (hb.mono HB.out.size))
    clear hb
    rw [hrr]
    go_wp2_with fail
    go_ret
    exact ⟨rfl, HB.out⟩
theorem rneed_any (n : Int) (h1 : -9223372036854775808 ≤ n) (h2 : n ≤ 100000) (w : World) :
    Calls Try.prog 11 #[.int .i64 n] w fun e w' => e = .returned (.int .i64 (needL n)) ∧ Below w.heap.size w w' := by
  obtain ⟨r, hr⟩ : ∃ r, needL n = r := ⟨_, rfl⟩
  rw [hr]
  have HR := Lib.hid hr
  clear hr
  have HB := Lib.hid (Below.refl w.heap.size w)
  go_enter Try.func11, Try.ntmps11
  go_wp2_with fail
  go_loopw [0, 3] (fun s0 s3 wr => ∃ (m : Int) (k : Nat), m ≤ 100000 ∧ -9223372036854775808 ≤ m ∧ s0 = .int .i64 m ∧ s3 = .int .i64 k ∧ (k : Int) + needL m = r ∧ (m : Int) + 118 * k ≤ 100118 ∧ k ≤ 1000 ∧ wr = w) (fun s0 _ _ => (intOf s0).toNat)
  case atStart => exact ⟨n, 0, h2, h1, rfl, rfl, by simpa using HR.out, by omega, by omega, rfl⟩
  case round =>
    obtain ⟨m, k, h3, h4, rfl, rfl, h5, h6, h7, rfl⟩ := hrel
    have H5 := Lib.hid h5
    clear h5
    by_cases h0 : m > 0
    · have hst := needL_step h0
      have H6 : Hid (((k + 1 : Nat) : Int) + needL (m - 118) = r) := Lib.hid (by have := H5.out; omega)
      clear hst H5
      go_wp2_with fail
      exact ⟨⟨m - 118, k + 1, by omega, by omega, by go_num, by go_num, H6.out, by omega, by omega, trivial⟩, by simp [intOf]; omega⟩
    · have hz : r = k := by have := H5.out; rw [needL_zero (by omega)] at this; omega
      subst hz
      clear H5
      go_wp2_with fail
      go_ret
      exact ⟨rfl, HB.out⟩
theorem ints_at {w : World} {b o n cap : Nat} {l : List Int} (h : Ints w (.slice (some ⟨b, o, none⟩) n cap) l) {k : Nat} (hk : k < l.length) : w.cell? ⟨b, o + k, none⟩ = some (.int .i64 l[k]) := by
  obtain ⟨b', o', cap', hve, _, _, hcm, _⟩ := SlR.pos h (by decide) (by omega)
  simp only [Value.slice.injEq] at hve
  obtain ⟨hve, _⟩ := hve
  cases hve
  exact hcm k _ (by simp [iC, List.getElem?_eq_getElem hk])
theorem Ints.len {w : World} {v : Value} {l : List Int} (h : Ints w v l) : (l.length : Int) ≤ 9223372036854775807 := by
  obtain ⟨_, _, _, h1, h2⟩ := SlR.shape h
  unfold maxLen at h2; omega
end Go.Proofs.Ytlddjcilbpcciaa
end
section
/-
  THE LOG: what may be asked of a device.
-/
namespace Lg
open Go Go.RowKit Agg Pg Dv
def askL (d : Dev) : Int := if rightD d then (if d.off then 10 else 0) else 260
end Lg
namespace Go.Proofs.Ytlddjcilbpcciaa
open Go.ChangeShapes Go.WideShapes Go.ChangeAt Go.RowKit Agg Pg Dv Lg
attribute [local go_sem] Oper.semAt_some

set_option maxHeartbeats 4000000 in
theorem asked_any (d : Dev) (dv : Value) (w : World) (hd : DGood d) (hD : DevR w dv d) :
    Calls Try.prog 32 #[dv] w fun e w' => e = .returned (.int .i64 (askL d)) ∧ Below w.heap.size w w' := by
  obtain ⟨px, pc, cx, cc, rfl⟩ := hD.shape
  have HCK := Lib.hid (fun W v hv => check_R (w := W) (v := v) (d := d) hd hv)
  have HD := Lib.hid hD
  obtain ⟨r, hr⟩ : ∃ r, rightD d = r := ⟨_, rfl⟩
  obtain ⟨o, ho⟩ : ∃ o, d.off = o := ⟨_, rfl⟩
  have hk : askL d = if r = true then (if o = true then 10 else 0) else 260 := by unfold askL; rw [hr, ho]
  rw [hk]
  rw [hr] at HCK
  rw [ho] at HD ⊢
  clear hk hr ho hd hD
  have HB := Lib.hid (Below.refl w.heap.size w)
  go_enter Try.func32, Try.ntmps32
  go_upto_region 1 with (fail)
  refine Agg.wp_at fun w1 hw1 => ?_
  have hb : Below w.heap.size w w1 := by rw [hw1.out]; repeat (first | exact Below.refl _ _ | refine Agg.bel_drew ?_ | refine Agg.bel_alloc ?_ _)
  replace HB := Lib.hid (HB.out.trans (hb.mono HB.out.size))
  replace HD := Lib.hid (HD.out.keep hb)
  clear hb
  have H1 : Hid (Blk w1 w.heap.size 28 [.slice px d.pages.length pc, .slice cx d.cache.length cc, .int .i64 d.fuse, .bool o]) := by show Blk _ _ _ _; rw [hw1.out]; exact Blk.new w 28 #[.slice px d.pages.length pc, .slice cx d.cache.length cc, .int .i64 d.fuse, .bool o]
  clear hw1
  have h1 := H1.out
  go_wp2_with (refine Agg.gLoadB 4 h1 rfl rfl rfl rfl (by decide +kernel) ?_; simp only [Act.put, List.setIfInBounds_toArray, List.set_cons_succ, List.set_cons_zero])
  clear h1
  refine (HCK.out w1 _ HD.out).mono ?_
  rintro e w2 ⟨rfl, hb⟩
  replace HB := Lib.hid (HB.out.trans (hb.mono HB.out.size))
  replace HD := Lib.hid (HD.out.keep hb)
  replace H1 := Lib.hid (H1.out.keep hb)
  clear hb
  have xH1_0 := H1.out.cell 0
  have xH1_1 := H1.out.cell 1
  have xH1_2 := H1.out.cell 2
  have xH1_3 := H1.out.cell 3
  have lH1 := H1.out.lt
  simp only [List.getElem?_cons_zero, List.getElem?_cons_succ] at xH1_0 xH1_1 xH1_2 xH1_3
  cases r
  · go_wp2_with fail
    go_ret
    exact ⟨rfl, HB.out⟩
  · cases o
    · go_wp2_with fail
      go_ret
      exact ⟨rfl, HB.out⟩
    · go_wp2_with fail
      go_ret
      exact ⟨rfl, HB.out⟩
end Go.Proofs.Ytlddjcilbpcciaa
end
