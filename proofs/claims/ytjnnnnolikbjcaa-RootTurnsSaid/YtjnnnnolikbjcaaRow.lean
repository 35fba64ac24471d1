/-
  ARRAYS AND STRUCTS IN MEMORY, over any program: places in arrays, slices of arrays, rows and bytes that are written into the middle of a block; operations of regions that read, or write, such places.
-/
import Derived.Test.YtjnnnnolikbjcaaCopy
import Derived.Test.YtjnnnnolikbjcaaKn
namespace Agg
open Go Go.RowKit

/-- what the program's table says of an array's type -/
structure AI (P : Program) (t e : TypeId) (m sz : Nat) : Prop where
  ht : P.underlying t = some (.array m e)
  hs : (P.info? e).map (·.size) = some sz
theorem run_idx_arr {P : Program} {t e : TypeId} {m sz : Nat} (A : AI P t e m sz) (b f : Nat) (k : IntKind) (i : Int) (h0 : 0 ≤ i) (hn : i < m) (w : World) :
    (Instr.indexAt t (.pointer (some ⟨b, f, none⟩)) (.int k i)).run P w = .ok (.pointer (some ⟨b, f + i.toNat * sz, none⟩)) w := by
  have hs := A.hs
  cases hq : P.info? e with
  | none => simp [hq] at hs
  | some j =>
    have hz : j.size = sz := by simpa [hq] using hs
    simp [Instr.indexAt, Instr.sureAddr, asIntOf, run_underlying A.ht, h0, hn, Go.sizeOf, typeInfo, hq, hz, add_none]
theorem run_sl_arr_from {P : Program} {t e : TypeId} {m sz : Nat} (A : AI P t e m sz) (b f k : Nat) (hk : k < m) (w : World) :
    (Instr.sliceAt t (.pointer (some ⟨b, f, none⟩)) (some (.int .i64 (k : Int))) none none).run P w = .ok (.slice (some ⟨b, f + k * sz, none⟩) (m - k) (m - k)) w := by
  have hs := A.hs
  have hk' : k ≤ m := by omega
  have hne : ¬ m = k := by omega
  cases hq : P.info? e with
  | none => simp [hq] at hs
  | some j =>
    have hz : j.size = sz := by simpa [hq] using hs
    simp [Instr.sliceAt, Instr.sureAddr, Instr.sliceBounds, Instr.sliceBound, asIntOf, run_underlying A.ht, hk', hne, Go.sizeOf, typeInfo, hq, hz, add_none]
theorem run_sl_arr {P : Program} {t e : TypeId} {m sz : Nat} (A : AI P t e m sz) (b f : Nat) (w : World) :
    (Instr.sliceAt t (.pointer (some ⟨b, f, none⟩)) none none none).run P w = .ok (.slice (some ⟨b, f, none⟩) m m) w := by
  have hs := A.hs
  cases hq : P.info? e with
  | none => simp [hq] at hs
  | some j =>
    have hz : j.size = sz := by simpa [hq] using hs
    simp [Instr.sliceAt, Instr.sureAddr, Instr.sliceBounds, run_underlying A.ht, Go.sizeOf, typeInfo, hq, add_none]

theorem spliced_length (xs : List Value) (off : Nat) (cs : List Value) (h : off + cs.length ≤ xs.length) : (spliced xs off cs).length = xs.length := by
  simp only [spliced, List.length_append, List.length_take, List.length_drop]; omega
/-- a value is stored into the middle of a block -/
theorem run_store_val {P : Program} (t : TypeId) (off : Nat) (v : Value) (cs : List Value) (hv : v.cells.toList = cs) {g : Nat} {T : TypeId} {xs : List Value} {w : World} (H : Blk w g T xs) (hs : (P.info? t).map (·.size) = some cs.length) (hf : off + cs.length ≤ xs.length) (h1 : ∀ v ∈ cs, v.oneCell' = true) :
    ∃ w', (Instr.storeAt t (.pointer (some ⟨g, off, none⟩)) v).run P w = .ok () w' ∧ Blk w' g T (spliced xs off cs) ∧ w.grownBy w' (some g) := by
  cases hq : P.info? t with
  | none => simp [hq] at hs
  | some i =>
    have hi : i.size = cs.length := by simpa [hq] using hs
    have hst := run_storeCells_at P g off T cs 0 xs.toArray w H (by simpa using hf) h1
    simp only [Nat.add_zero] at hst
    have hz : v.cells.size = cs.length := by rw [← hv]; simp
    refine ⟨_, ?_, setRow_heap w g xs.toArray _ T (0, 0) H, ⟨rfl, rfl, rfl, by simp, fun j _ hj => setRow_other w g j _ (fun e => hj (by rw [e]))⟩⟩
    simp [Instr.storeAt, Instr.sureAddr, storeVar, Go.sizeOf, typeInfo, hq, hi, hz, hv, hst, spliced]
theorem run_store_mid {P : Program} (t : TypeId) (off : Nat) (cs : List Value) {g : Nat} {T : TypeId} {xs : List Value} {w : World} (H : Blk w g T xs) (hs : (P.info? t).map (·.size) = some cs.length) (hf : off + cs.length ≤ xs.length) (h1 : ∀ v ∈ cs, v.oneCell' = true) :
    ∃ w', (Instr.storeAt t (.pointer (some ⟨g, off, none⟩)) (.agg cs.toArray)).run P w = .ok () w' ∧ Blk w' g T (spliced xs off cs) ∧ w.grownBy w' (some g) := run_store_val t off _ cs (by simp [Value.cells]) H hs hf h1
/-- bytes (or other single cells) are copied into the middle of a block -/
theorem run_copy_blk {P : Program} {t t' e : TypeId} {bytes : Nat} {z : Value} (T : TI P t e 1 bytes z) (ty : TypeId) {w : World} {g : Nat} {Tb : TypeId} {xs : List Value} (H : Blk w g Tb xs)
    (off dl dc : Nat) {sv : Value} {m : Nat} {cs : List Value} (hsl : SlR w sv 1 m cs) (h1 : ∀ u ∈ cs, u.oneCell' = true) (k : Nat) (hk : k = Nat.min m dl) (hoff : off + k ≤ xs.length) :
    ∃ w', (Builtin.copy_ #[t, t'] ty #[.slice (some ⟨g, off, none⟩) dl dc, sv]).run P w = .ok (goInt k) w' ∧ Blk w' g Tb (spliced xs off (cs.take k)) ∧ w.grownBy w' (some g) := by
  obtain ⟨i, hi, hz, hs, hb⟩ := T.info
  have hkm : k ≤ m := by rw [hk]; exact Nat.min_le_left _ _
  have hkl : (cs.take k).length = k := by rw [List.length_take, hsl.1]; omega
  have hst := run_storeCells_at P g off Tb (cs.take k) 0 xs.toArray w H (by rw [hkl]; simpa using hoff) (fun u hu => h1 u (List.mem_of_mem_take hu))
  simp only [Nat.add_zero, hkl] at hst
  have hne : (xs.toArray.toList.take off ++ cs.take k ++ xs.toArray.toList.drop (off + k)).toArray = (spliced xs off (cs.take k)).toArray := by simp [spliced, hkl]
  refine ⟨_, ?_, setRow_heap w g xs.toArray _ Tb (0, 0) H, ⟨rfl, rfl, rfl, by simp, fun j _ hj => setRow_other w g j _ (fun e => hj (by rw [e]))⟩⟩
  rw [← hne]
  rcases hsl.2 with ⟨rfl, rfl⟩ | ⟨x, cap2, rfl, h3, h4, h5⟩
  · have : k = 0 := by omega
    subst this
    simp only [List.take_zero, Nat.add_zero, List.append_nil, List.take_append_drop]
    rw [setRow_self w g xs.toArray Tb (0, 0) H]
    have : (0 : Nat).min dl = 0 := Nat.min_eq_left (Nat.zero_le _)
    simp [Builtin.copy_, run_underlying T.ht, Builtin.lenOf, Builtin.firstCells, Go.sizeOf, typeInfo, hi, storeCells, this]
  · have hl := run_loadCells_list (P := P) w x (cs.take k) (fun j u hu => h5 j u (by
      rw [List.getElem?_take] at hu
      split at hu
      · exact hu
      · cases hu))
    rw [hkl, hk] at hl
    rw [hk] at hst
    simp [Builtin.copy_, run_underlying T.ht, Builtin.lenOf, Builtin.firstCells, Go.sizeOf, typeInfo, hi, hl, hs, hst, hk]
/-- a cell is set: nothing else is changed -/
theorem set_grown (w : World) (p : Addr) (u : Value) : w.grownBy (w.setCell p u) (some p.block) := by
  have h := (Below.refl 0 w).setCell (p := p) (Nat.zero_le _) u
  exact ⟨h.os, h.tape, h.output, h.size, fun j _ hj => Below.heap_setCell w p u j (fun e => hj (by rw [e]))⟩
theorem grown_trans {a w w' : World} {row : Option Nat} (h : a.grownBy w row) (k : w.grownBy w' row) : a.grownBy w' row :=
  ⟨k.os.trans h.os, k.tape.trans h.tape, k.output.trans h.output, Nat.le_trans h.size k.size, fun j hj hne => (k.block j (Nat.lt_of_lt_of_le hj h.size) hne).trans (h.block j hj hne)⟩
theorem grown_bel {w w' : World} (row : Option Nat) (h : Below w.heap.size w w') : w.grownBy w' row := ⟨h.os, h.tape, h.output, h.size, fun j hj _ => h.block j hj⟩
theorem Bytes.grown {w w' : World} {v : Value} {l : List UInt8} {row : Option Nat} (h : Bytes w v l) (hg : w.grownBy w' row) (hne : ∀ k, row = some k → v.ownBlock ≠ some k) : Bytes w' v l := SlR.grown h hg hne
theorem Blk.far' {w w' : World} {g : Nat} {t : TypeId} {cs : List Value} {b : Nat} (h : Blk w g t cs) (hg : w.grownBy w' (some b)) (hne : g ≠ b) : Blk w' g t cs := Blk.grown h hg hne
/-- a block that holds single cells, read as a slice -/
theorem SlR.ofBlk {w : World} {g : Nat} {T : TypeId} {xs : List Value} (H : Blk w g T xs) (off n cap : Nat) (cs : List Value) (hc : (xs.drop off).take n = cs) (hl : cs.length = n) (hcap : n ≤ cap) (hm : cap ≤ maxLen) : SlR w (.slice (some ⟨g, off, none⟩) n cap) 1 n cs := by
  refine ⟨by omega, .inr ⟨_, cap, rfl, hcap, hm, fun i u hu => ?_⟩⟩
  rw [add_none, H.cell]
  rw [← hc, List.getElem?_take] at hu
  split at hu
  · rwa [List.getElem?_drop] at hu
  · cases hu

section
variable {P : Program} {w : World} {o : Oper} {l0 : List Value} {Q : Exit → Act → World → Prop}
theorem run_nil {x : Operand} {p : Addr} (ho : o.op = .nilCheck x) (hx : ev l0 x = .pointer (some p)) : (execOp (ev l0) o).run P w = .ok (.value (.pointer (some p))) w := by simp [execOp, ho, hx]
theorem run_iaA {t e : TypeId} {m sz : Nat} (A : AI P t e m sz) {x y : Operand} {b f : Nat} {k : IntKind} {i : Int} (h0 : 0 ≤ i) (hn : i < m) (ho : o.op = .indexAddr t x y) (hx : ev l0 x = .pointer (some ⟨b, f, none⟩)) (hy : ev l0 y = .int k i) :
    (execOp (ev l0) o).run P w = .ok (.value (.pointer (some ⟨b, f + i.toNat * sz, none⟩))) w := by
  simp only [execOp, ho, hx, hy, run_idx_arr A b f k i h0 hn w, Sem.run_bind, Result.andThen_ok, Sem.run_pure]
theorem run_int {s d : TypeId} {x : Operand} {k k' : IntKind} {m : Int} (r : Int) (hr : k'.wrap m = r) (hs : P.underlying s = some (.int k)) (hd : P.underlying d = some (.int k')) (ho : o.op = .convert s d x) (hx : ev l0 x = .int k m) :
    (execOp (ev l0) o).run P w = .ok (.value (.int k' r)) w := by
  subst hr
  have h : (convert s d (.int k m)).run P w = .ok (.int k' (k'.wrap m)) w := by
    simp [convert, run_underlying hs, run_underlying hd, Conv.intToInt]
  simp only [execOp, ho, hx, h, Sem.run_bind, Result.andThen_ok, Sem.run_pure]
theorem run_st {t : TypeId} {x y : Operand} {g i : Nat} (v : Value) (cs : List Value) {T : TypeId} {xs : List Value} (H : Blk w g T xs) (hv : v.cells.toList = cs) (hs : (P.info? t).map (·.size) = some cs.length) (hf : i + cs.length ≤ xs.length) (h1 : ∀ v ∈ cs, v.oneCell' = true)
    (ho : o.op = .store t x y) (hx : ev l0 x = .pointer (some ⟨g, i, none⟩)) (hy : ev l0 y = v) :
    ∃ w', (execOp (ev l0) o).run P w = .ok .skip w' ∧ Blk w' g T (spliced xs i cs) ∧ w.grownBy w' (some g) := by
  obtain ⟨w', h2, h3, h4⟩ := run_store_val (P := P) t i v cs hv H hs hf h1
  refine ⟨w', ?_, h3, h4⟩
  simp only [execOp, ho, hx, hy, h2, Sem.run_bind, Result.andThen_ok, Sem.run_pure]
/-- a step of a list (of a tail): an operation whose run is known -/
theorem tVal {ops : Array Oper} {rest : List Oper} {ds : List Deferred} {d : Nat} (hg : o.guard = none) (hd : o.dst = some d) {v : Value} {w' : World} (hr : (execOp (ev l0) o).run P w = .ok (.value v) w') (h : wpList P ops Q rest ⟨(l0.set d v).toArray, ds⟩ w') : wpList P ops Q (o :: rest) ⟨l0.toArray, ds⟩ w :=
  run hg v w' (by rw [ev_eq]; exact hr) (by rw [hd, put_eq]; exact h)
theorem tSkip {ops : Array Oper} {rest : List Oper} {ds : List Deferred} (hg : o.guard = none) (hd : o.dst = none) {w' : World} (hr : (execOp (ev l0) o).run P w = .ok .skip w') (h : wpList P ops Q rest ⟨l0.toArray, ds⟩ w') : wpList P ops Q (o :: rest) ⟨l0.toArray, ds⟩ w :=
  runSkip hg w' (by rw [ev_eq]; exact hr) (by rw [hd]; exact h)
/-- an element, that is a row, of an array that is a value -/
theorem run_index_row {t e : TypeId} {m sz : Nat} (A : AI P t e m sz) (he : aggT P e sz = true) (cs el : List Value) (n : Nat) (hn : n < m) (hel : (cs.drop (n * sz)).take sz = el) (w : World) : (Instr.index t (.agg cs.toArray) (.int .i64 (n : Int))).run P w = .ok (.agg el.toArray) w := by
  simp only [aggT, Bool.and_eq_true, beq_iff_eq] at he
  obtain ⟨h1, h2⟩ := he
  cases hu : P.underlying e with
  | none => simp [hu] at h1
  | some d =>
    have hone : oneOf d = false := by cases d <;> simp [hu] at h1 <;> rfl
    cases hq : P.info? e with
    | none => simp [hq] at h2
    | some i =>
      have hi : i.size = sz := by simpa [hq] using h2
      have hagg : (isAgg e).run P w = .ok true w := by
        unfold isAgg
        rw [Sem.run_bind, run_underlying hu w]
        cases d <;> simp_all [oneOf]
      simp [Instr.index, asIntOf, run_underlying A.ht, hn, Go.sizeOf, typeInfo, hq, hi, part, hagg, ← hel]
theorem gIndexRow {ops : Array Oper} {rest : List Oper} {a : Act} {t e : TypeId} {m sz : Nat} (A : AI P t e m sz) (he : aggT P e sz = true) {x y : Operand} {cs : List Value} (el : List Value) {n : Nat} (hn : n < m) (hel : (cs.drop (n * sz)).take sz = el) (hg : o.guard = none) (ho : o.op = .index t x y) (hx : a.eval x = .agg cs.toArray) (hy : a.eval y = .int .i64 (n : Int))
    (h : wpList P ops Q rest (a.put o.dst (.agg el.toArray)) w) : wpList P ops Q (o :: rest) a w := by
  refine run hg _ w ?_ h
  simp only [execOp, ho, hx, hy, Sem.run_bind, run_index_row A he cs el n hn hel, Result.andThen_ok, Sem.run_pure]
/-- copy into the middle of a block that is known (a tail's operation) -/
theorem tCopyB {ops : Array Oper} {rest : List Oper} {ds : List Deferred} {d : Nat} {t t' e : TypeId} {bytes : Nat} {z : Value} (T : TI P t e 1 bytes z) (dd s : Operand) (hg : o.guard = none) (hd : o.dst = some d) (ho : o.op = .call { callee := .builtin .copy, args := #[dd, s], argTypes := #[t, t'] })
    {g : Nat} {Tb : TypeId} {xs : List Value} (H : Blk w g Tb xs) (off dl dc : Nat) (hdv : ev l0 dd = .slice (some ⟨g, off, none⟩) dl dc) {sv : Value} (hsv : ev l0 s = sv) {m : Nat} {cs : List Value} (hsl : SlR w sv 1 m cs) (h1 : ∀ u ∈ cs, u.oneCell' = true) (k : Nat) (hk : k = Nat.min m dl) (hoff : off + k ≤ xs.length)
    (h : ∀ w', Blk w' g Tb (spliced xs off (cs.take k)) → w.grownBy w' (some g) → wpList P ops Q rest ⟨(l0.set d (.int .i64 (k : Int))).toArray, ds⟩ w') : wpList P ops Q (o :: rest) ⟨l0.toArray, ds⟩ w := by
  obtain ⟨w', hr, h2, h3⟩ := run_copy_blk (t' := t') T o.type H off dl dc hsl h1 k hk hoff
  refine tVal hg hd (v := .int .i64 (k : Int)) (w' := w') ?_ (h w' h2 h3)
  simp [execOp, ho, resolve, hdv, hsv, invoke, builtin, hr, goInt]
theorem add_add (p : Addr) (k j : Nat) : (p.add k).add j = p.add (k + j) := by
  unfold Addr.add
  by_cases h1 : k = 0
  · subst h1; simp
  · by_cases h2 : j = 0
    · subst h2; simp [h1]
    · simp [h1, h2, Nat.add_assoc]
/-- b[k:] of bytes -/
theorem run_slice_bytes {t e : TypeId} {bytes : Nat} {z : Value} (T : TI P t e 1 bytes z) {x : Option Addr} {n cap : Nat} {cs : List Value} (h : SlR w (.slice x n cap) 1 n cs) (k : Nat) (hk : k ≤ n) :
    ∃ y c, (∀ w2, (Instr.sliceAt t (.slice x n cap) (some (.int .i64 (k : Int))) none none).run P w2 = .ok (.slice y (n - k) c) w2) ∧ SlR w (.slice y (n - k) c) 1 (n - k) (cs.drop k) ∧ y.map (·.block) = x.map (·.block) := by
  obtain ⟨i, hi, hz, hs, hb⟩ := T.info
  obtain ⟨hl, h2⟩ := h
  have hlen : (cs.drop k).length = (n - k) * 1 := by rw [List.length_drop, hl]; omega
  rcases h2 with ⟨h3, h4⟩ | ⟨p, cap', hv, h3, h4, h5⟩
  · simp only [Value.slice.injEq] at h3
    obtain ⟨rfl, _, rfl⟩ := h3
    obtain rfl : n = 0 := h4
    obtain rfl : k = 0 := by omega
    refine ⟨none, 0, fun w2 => ?_, ⟨hlen, .inl ⟨rfl, rfl⟩⟩, rfl⟩
    simp [Instr.sliceAt, Instr.slice, Instr.sliceBounds, Instr.sliceBound, run_underlying T.ht, asIntOf, Go.sizeOf, typeInfo, hi]
  · simp only [Value.slice.injEq, true_and] at hv
    obtain ⟨rfl, rfl⟩ := hv
    by_cases hc : cap = k
    · subst hc
      have hnk : n - cap = 0 := by omega
      refine ⟨some p, 0, fun w2 => ?_, ⟨hlen, .inr ⟨p, 0, by rw [hnk], by omega, Nat.zero_le _, fun j u hj => ?_⟩⟩, rfl⟩
      · have hkn : cap ≤ n := hk
        simp [Instr.sliceAt, Instr.slice, Instr.sliceBounds, Instr.sliceBound, run_underlying T.ht, asIntOf, hkn, Go.sizeOf, typeInfo, hi]
      · have := (List.getElem?_eq_some_iff.1 hj).1
        rw [hlen] at this; omega
    · refine ⟨some (p.add (k * 1)), cap - k, fun w2 => ?_, ⟨hlen, .inr ⟨_, _, rfl, by omega, by omega, fun j u hj => ?_⟩⟩, by simp [Addr.add]; split <;> rfl⟩
      · simp [Instr.sliceAt, Instr.slice, Instr.sliceBounds, Instr.sliceBound, run_underlying T.ht, asIntOf, hk, Go.sizeOf, typeInfo, hi, hs, hc]
      · rw [List.getElem?_drop] at hj
        have := h5 (k + j) u hj
        rw [Nat.mul_one, add_add]; exact this
/-- a row is loaded, wherever it lies -/
theorem gLoad {ops : Array Oper} {rest : List Oper} {a : Act} {t : TypeId} {y : Operand} {b f : Nat} (m : Nat) (cs : List Value) (hg : o.guard = none) (ho : o.op = .load t y) (hy : a.eval y = .pointer (some ⟨b, f, none⟩)) (ht : aggT P t m = true) (hl : cs.length = m)
    (hc : ∀ i v, cs[i]? = some v → w.cell? ⟨b, f + i, none⟩ = some v) (h : wpList P ops Q rest (a.put o.dst (.agg cs.toArray)) w) : wpList P ops Q (o :: rest) a w := by
  simp only [aggT, Bool.and_eq_true, beq_iff_eq] at ht
  obtain ⟨h1, h2⟩ := ht
  cases hu : P.underlying t with
  | none => simp [hu] at h1
  | some d =>
    have hone : oneOf d = false := by cases d <;> simp [hu] at h1 <;> rfl
    exact loadAt t d cs ⟨b, f, none⟩ y hg ho hy hu hone (by rw [h2, hl]) (fun i v hi => by rw [add_none]; exact hc i v hi) h
/-- .. of a block that is known -/
theorem gLoadB {ops : Array Oper} {rest : List Oper} {a : Act} {t : TypeId} {y : Operand} {b : Nat} {T : TypeId} {cs : List Value} (m : Nat) (H : Blk w b T cs) (hl : cs.length = m) (hg : o.guard = none) (ho : o.op = .load t y) (hy : a.eval y = .pointer (some ⟨b, 0, none⟩)) (ht : aggT P t m = true)
    (h : wpList P ops Q rest (a.put o.dst (.agg cs.toArray)) w) : wpList P ops Q (o :: rest) a w := gLoad m cs hg ho hy ht hl (fun i v hi => by rw [H.cell, Nat.zero_add]; exact hi) h
/-- a row is laid, and at once stored over: what was laid is not looked at -/
theorem gStoreNew {ops : Array Oper} {rest : List Oper} {a : Act} {t : TypeId} {x y : Operand} {w0 : World} {T : TypeId} {z : Array Value} {n : Nat} (m : Nat) (cs : List Value) (hg : o.guard = none) (ho : o.op = .store t x y) (hx : a.eval x = .pointer (some ⟨n, 0, none⟩)) (hy : a.eval y = .agg cs.toArray)
    (hw : w = w0.alloc (.cells z T)) (hn : n = w0.heap.size) (ht : aggT P t m = true) (hl : cs.length = m) (hz : z.size = m) (h1 : ∀ v ∈ cs, v.oneCell' = true)
    (h : wpList P ops Q rest (a.put o.dst undef) (w0.alloc (.cells cs.toArray T))) : wpList P ops Q (o :: rest) a w := by
  simp only [aggT, Bool.and_eq_true, beq_iff_eq] at ht
  exact storeNew t T z cs.toArray w0 n x y hg ho hx hy hw hn (by rw [ht.2, ← hl]; simp) (by simp [hz, hl]) (by simpa using h1) h
/-- .. over a block that is known -/
theorem gStoreB {ops : Array Oper} {rest : List Oper} {a : Act} {t : TypeId} {x y : Operand} {b : Nat} {T : TypeId} {z : List Value} (m : Nat) (cs : List Value) (H : Blk w b T z) (hg : o.guard = none) (hd : o.dst = none) (ho : o.op = .store t x y) (hx : a.eval x = .pointer (some ⟨b, 0, none⟩)) (hy : a.eval y = .agg cs.toArray)
    (ht : aggT P t m = true) (hz : z.length = m) (hc : cs.length = m) (h1 : ∀ v ∈ cs, v.oneCell' = true) (h : ∀ w', Blk w' b T cs → w.grownBy w' (some b) → wpList P ops Q rest a w') : wpList P ops Q (o :: rest) a w :=
  tStore m H hg hd ho hx hy ht hz hc h1 h
/-- a slice of a slice, from a place on -/
theorem gSlice {ops : Array Oper} {rest : List Oper} {a : Act} {t : TypeId} {x y : Operand} {u v : Value} (r : Value) (hg : o.guard = none) (ho : o.op = .slice t x (some y) none none) (hx : a.eval x = u) (hy : a.eval y = v) (hr : ∀ w2, (Instr.sliceAt t u (some v) none none).run P w2 = .ok r w2)
    (h : wpList P ops Q rest (a.put o.dst r) w) : wpList P ops Q (o :: rest) a w := by
  refine Agg.run hg r w ?_ h
  simp only [execOp, ho, Option.map_some, Option.map_none, hx, hy, hr, Sem.run_bind, Result.andThen_ok, Sem.run_pure]
/-- a value of a type, all noughts -/
theorem gBuild0 {ops : Array Oper} {rest : List Oper} {a : Act} {t : TypeId} (v : Value) (hg : o.guard = none) (ho : o.op = .build t #[]) (hr : ∀ w2, (Instr.build t #[]).run P w2 = .ok v w2) (h : wpList P ops Q rest (a.put o.dst v) w) : wpList P ops Q (o :: rest) a w := by
  refine Agg.run hg v w ?_ h
  simp [execOp, ho, hr]
/-- .. into the middle of a block that is known -/
theorem gStoreMid {ops : Array Oper} {rest : List Oper} {a : Act} {t : TypeId} {x y : Operand} {b : Nat} {T : TypeId} {z : List Value} (m off : Nat) (cs : List Value) (H : Blk w b T z) (hg : o.guard = none) (hd : o.dst = none) (ho : o.op = .store t x y) (hx : a.eval x = .pointer (some ⟨b, off, none⟩)) (hy : a.eval y = .agg cs.toArray)
    (ht : aggT P t m = true) (hc : cs.length = m) (hf : off + m ≤ z.length) (h1 : ∀ v ∈ cs, v.oneCell' = true) (h : ∀ w', Blk w' b T (spliced z off cs) → w.grownBy w' (some b) → wpList P ops Q rest a w') : wpList P ops Q (o :: rest) a w := by
  simp only [aggT, Bool.and_eq_true, beq_iff_eq] at ht
  obtain ⟨w', h2, h3, h4⟩ := run_store_mid (P := P) t off cs H (by rw [ht.2, hc]) (by omega) h1
  refine runSkip hg w' ?_ (by rw [hd]; exact h w' h3 h4)
  simp only [execOp, ho, hx, hy, h2, Sem.run_bind, Result.andThen_ok, Sem.run_pure]
/-- .. a value, of one cell -/
theorem gStoreCell {ops : Array Oper} {rest : List Oper} {a : Act} {t : TypeId} {x y : Operand} {b : Nat} {T : TypeId} {z : List Value} (off : Nat) (v : Value) (H : Blk w b T z) (hg : o.guard = none) (hd : o.dst = none) (ho : o.op = .store t x y) (hx : a.eval x = .pointer (some ⟨b, off, none⟩)) (hy : a.eval y = v)
    (ht : (P.info? t).map (·.size) = some 1) (hv : v.cells.toList = [v]) (hf : off + 1 ≤ z.length) (h1 : v.oneCell' = true) (h : ∀ w', Blk w' b T (spliced z off [v]) → w.grownBy w' (some b) → wpList P ops Q rest a w') : wpList P ops Q (o :: rest) a w := by
  obtain ⟨w', h2, h3, h4⟩ := run_store_val (P := P) t off v [v] hv H ht (by simpa using hf) (by simpa using h1)
  refine runSkip hg w' ?_ (by rw [hd]; exact h w' h3 h4)
  simp only [execOp, ho, hx, hy, h2, Sem.run_bind, Result.andThen_ok, Sem.run_pure]
/-- .. in the middle of a region that draws its order: a store, the only one that may come up -/
theorem heldSkip {S : World → Prop} {l : List Oper} {ds : List Deferred} {n i : Nat} {bs : List Bool} (hr : Region.ready .any l.toArray bs.toArray = [i]) (hi : l[i]? = some o) (hg : o.guard = none) (hd : o.dst = none) {w' : World} (hrun : (execOp (ev l0) o).run P w = .ok .skip w') (hS : S w')
    (h : Held P l Q S n (bs.set i true) l0 ds w') : Held P l Q S (n + 1) bs l0 ds w := by
  refine wpAnyH_all hr (by simp) fun j hj => ?_
  obtain rfl : j = i := by simpa using hj
  unfold wpOp
  have hi' : l.toArray[j]? = some o := by simpa using hi
  simp only [hi']
  rw [if_pos (wn hg)]
  refine .inl ?_
  unfold Oper.wp
  rw [ev_eq, hrun]
  refine ⟨hS, ?_⟩
  have : bs.toArray.setIfInBounds j true = (bs.set j true).toArray := by simp
  rw [hd, this]; exact h
theorem run_bin {op : BinOp} {t t' : TypeId} {x y : Operand} {vx vy v : Value} (ho : o.op = .binOp op t x y t') (hx : ev l0 x = vx) (hy : ev l0 y = vy) (hg : (eqGuard op t x y vx vy).run P w = .ok () w) (hr : (binOp op t vx vy).run P w = .ok v w) : (execOp (ev l0) o).run P w = .ok (.value v) w := by
  simp only [execOp, ho, hx, hy, Sem.run_bind, hg, hr, Result.andThen_ok, Sem.run_pure]
theorem run_add {t t' : TypeId} {x y : Operand} {m q r : Int} (hr : m + q = r) (h0 : -9223372036854775808 ≤ r) (h1 : r ≤ 9223372036854775807) (ho : o.op = .binOp .add t x y t') (hx : ev l0 x = .int .i64 m) (hy : ev l0 y = .int .i64 q) : (execOp (ev l0) o).run P w = .ok (.value (.int .i64 r)) w := by
  have e : IntKind.i64.wrap (m + q) = r := by rw [hr, IntKind.wrap_i64]; omega
  refine run_bin ho hx hy rfl ?_
  show Result.ok (Value.int .i64 (IntKind.i64.wrap (m + q))) w = _
  rw [e]
theorem run_mn {x y : Operand} {ts : Array TypeId} {k k' : IntKind} {m q : Int} (r : Int) (hr : min m q = r) (ho : o.op = .call { callee := .builtin .min, args := #[x, y], argTypes := ts }) (hx : ev l0 x = .int k m) (hy : ev l0 y = .int k' q) : (execOp (ev l0) o).run P w = .ok (.value (.int k r)) w := by
  subst hr; simp [execOp, ho, resolve, hx, hy, invoke, builtin, run_min]
theorem run_slice_3 {t e : TypeId} {size bytes : Nat} {z : Value} (T : TI P t e size bytes z) (b f len cap k m x : Nat) (hk : k ≤ m) (hm : m ≤ x) (hc : x ≤ cap) (hlt : k < x) (w : World) :
    (Instr.sliceAt t (.slice (some ⟨b, f, none⟩) len cap) (some (.int .i64 (k : Int))) (some (.int .i64 (m : Int))) (some (.int .i64 (x : Int)))).run P w = .ok (.slice (some ⟨b, f + k * size, none⟩) (m - k) (x - k)) w := by
  obtain ⟨i, hi, hz, hs, hb⟩ := T.info
  have h1 : ¬ x = k := by omega
  simp [Instr.sliceAt, Instr.slice, Instr.sliceBounds, Instr.sliceBound, run_underlying T.ht, asIntOf, hk, hm, hc, Go.sizeOf, typeInfo, hi, hs, h1, add_none]
theorem run_sl3 {t : TypeId} {x a b c : Operand} {u va vb vc r : Value} (hr : (Instr.sliceAt t u (some va) (some vb) (some vc)).run P w = .ok r w) (ho : o.op = .slice t x (some a) (some b) (some c)) (hx : ev l0 x = u) (ha : ev l0 a = va) (hb : ev l0 b = vb) (hc : ev l0 c = vc) : (execOp (ev l0) o).run P w = .ok (.value r) w := by
  simp only [execOp, ho, Option.map_some, hx, ha, hb, hc, hr, Sem.run_bind, Result.andThen_ok, Sem.run_pure]
theorem run_sl2 {t : TypeId} {x a b : Operand} {u va vb r : Value} (hr : (Instr.sliceAt t u (some va) (some vb) none).run P w = .ok r w) (ho : o.op = .slice t x (some a) (some b) none) (hx : ev l0 x = u) (ha : ev l0 a = va) (hb : ev l0 b = vb) : (execOp (ev l0) o).run P w = .ok (.value r) w := by
  simp only [execOp, ho, Option.map_some, Option.map_none, hx, ha, hb, hr, Sem.run_bind, Result.andThen_ok, Sem.run_pure]
theorem run_bld {t : TypeId} {ps : List (Nat × Operand)} {v : Value} (ho : o.op = .build t ps.toArray) (hr : (Instr.build t (ps.map fun p => (p.1, ev l0 p.2)).toArray).run P w = .ok v w) : (execOp (ev l0) o).run P w = .ok (.value v) w := by
  have h3 : (ps.toArray.map fun (i, x) => (i, ev l0 x)) = (ps.map fun p => (p.1, ev l0 p.2)).toArray := by rw [List.map_toArray]
  simp only [execOp, ho, h3, Sem.run_bind, hr, Result.andThen_ok, Sem.run_pure]
theorem run_alc {t : TypeId} (z : Array Value) (ho : o.op = .alloc t) (hz : (P.info? t).map (·.zero) = some (some (.agg z))) : (execOp (ev l0) o).run P w = .ok (.value (.pointer (some ⟨w.heap.size, 0, none⟩))) (w.alloc (.cells z t)) := by
  cases hq : P.info? t with
  | none => simp [hq] at hz
  | some i =>
    have hi : i.zero = some (.agg z) := by simpa [hq] using hz
    simp [execOp, ho, Instr.alloc, zeroValue, typeInfo, hq, hi, newVar, newRow, Value.cells]
/-- .. a store into a block that is known, the only one that may come up -/
theorem heldSt {S : World → Prop} {l : List Oper} {ds : List Deferred} {n i : Nat} {bs : List Bool} {t : TypeId} {x y : Operand} {g f : Nat} (v : Value) (cs : List Value) {T : TypeId} {xs : List Value} (H : Blk w g T xs) (hv : v.cells.toList = cs) (hs : (P.info? t).map (·.size) = some cs.length) (hf : f + cs.length ≤ xs.length) (h1 : ∀ v ∈ cs, v.oneCell' = true)
    (hr : Region.ready .any l.toArray bs.toArray = [i]) (hi : l[i]? = some o) (hg : o.guard = none) (hd : o.dst = none) (ho : o.op = .store t x y) (hx : ev l0 x = .pointer (some ⟨g, f, none⟩)) (hy : ev l0 y = v)
    (h : ∀ w', Blk w' g T (spliced xs f cs) → w.grownBy w' (some g) → S w' ∧ Held P l Q S n (bs.set i true) l0 ds w') : Held P l Q S (n + 1) bs l0 ds w := by
  obtain ⟨w', h2, h3, h4⟩ := run_st (P := P) (l0 := l0) (o := o) v cs H hv hs hf h1 ho hx hy
  exact heldSkip hr hi hg hd h2 (h w' h3 h4).1 (h w' h3 h4).2
end
section
variable {n kk : Nat} {P : Program} {l rest : List Oper} {W : World} {l0 : List Value} {ds : List Deferred} {acc : List R} {o : Oper} {fin : List R → Prop}
theorem chNil {x : Operand} {p : Addr} (ho : o.op = .nilCheck x) (hx : rd (l.take n) l0 kk acc o x = some (.pointer (some p))) (hw : wants kk acc o = some true) (hk : gOk l o = true)
    (h : ChainR n P l.toArray W ⟨l0.toArray, ds⟩ (kk + 1) ((.pure (.pointer (some p))) :: acc) rest fin) : ChainR n P l.toArray W ⟨l0.toArray, ds⟩ kk acc (o :: rest) fin :=
  chRun (r := .pure (.pointer (some p))) (by rw [ho]; rfl) hw hk trivial (fun a w hh => ⟨_, w, by simp [execOp, ho, hh.rd hx], rfl, Below.refl _ _⟩) h
theorem chIAA {t e : TypeId} {m sz : Nat} (A : AI P t e m sz) {x y : Operand} {b f : Nat} {k : IntKind} {i : Int} (h0 : 0 ≤ i) (hn : i < m) (ho : o.op = .indexAddr t x y) (hx : rd (l.take n) l0 kk acc o x = some (.pointer (some ⟨b, f, none⟩))) (hy : rd (l.take n) l0 kk acc o y = some (.int k i)) (hw : wants kk acc o = some true) (hk : gOk l o = true)
    (h : ChainR n P l.toArray W ⟨l0.toArray, ds⟩ (kk + 1) ((.pure (.pointer (some ⟨b, f + i.toNat * sz, none⟩))) :: acc) rest fin) : ChainR n P l.toArray W ⟨l0.toArray, ds⟩ kk acc (o :: rest) fin :=
  chIdx ho hx hy hw hk (fun w => run_idx_arr A b f k i h0 hn w) h
theorem chSl {t : TypeId} {x y : Operand} {u v : Value} (r : Value) (hr : ∀ w, (Instr.sliceAt t u (some v) none none).run P w = .ok r w) (ho : o.op = .slice t x (some y) none none) (hx : rd (l.take n) l0 kk acc o x = some u) (hy : rd (l.take n) l0 kk acc o y = some v) (hw : wants kk acc o = some true) (hk : gOk l o = true)
    (h : ChainR n P l.toArray W ⟨l0.toArray, ds⟩ (kk + 1) ((.pure r) :: acc) rest fin) : ChainR n P l.toArray W ⟨l0.toArray, ds⟩ kk acc (o :: rest) fin :=
  chPure (by rw [ho]; rfl) hw hk (fun a w hh w' => by simp only [execOp, ho, Option.map_some, Option.map_none, hh.rd hx, hh.rd hy, hr, Sem.run_bind, Result.andThen_ok, Sem.run_pure]) h
theorem chSlA {t e : TypeId} {m sz : Nat} (A : AI P t e m sz) {x y : Operand} {b f : Nat} (i : Nat) (hn : i < m) (ho : o.op = .slice t x (some y) none none) (hx : rd (l.take n) l0 kk acc o x = some (.pointer (some ⟨b, f, none⟩))) (hy : rd (l.take n) l0 kk acc o y = some (.int .i64 (i : Int))) (hw : wants kk acc o = some true) (hk : gOk l o = true)
    (h : ChainR n P l.toArray W ⟨l0.toArray, ds⟩ (kk + 1) ((.pure (.slice (some ⟨b, f + i * sz, none⟩) (m - i) (m - i))) :: acc) rest fin) : ChainR n P l.toArray W ⟨l0.toArray, ds⟩ kk acc (o :: rest) fin :=
  chPure (by rw [ho]; rfl) hw hk (fun a w hh w' => by simp only [execOp, ho, Option.map_some, Option.map_none, hh.rd hx, hh.rd hy, run_sl_arr_from A b f i hn, Sem.run_bind, Result.andThen_ok, Sem.run_pure]) h
end
section
variable {P : Program}
/-- results: a row that lies in a block, and others -/
theorem run_row {ty : TypeId} {m g : Nat} {T : TypeId} {cs : List Value} {w : World} (H : Blk w g T cs) (ht : aggT P ty m = true) (hm : cs.length = m) : (loadVar ty ⟨g, 0, none⟩).run P w = .ok (.agg cs.toArray) w := by
  simp only [aggT, Bool.and_eq_true, beq_iff_eq] at ht
  obtain ⟨h1, h2⟩ := ht
  cases hu : P.underlying ty with
  | none => simp [hu] at h1
  | some d =>
    have hone : (match d with | .struct _ | .array _ _ => true | _ => false) = true := by cases d <;> simp [hu] at h1 <;> rfl
    exact run_loadVar_row w g T ty cs.toArray (0, 0) d H hu hone (by rw [h2, ← hm]; simp)
theorem results_row1 {fn : Func} {p : Tmp} {ty : TypeId} (h : fn.results = #[.cell p ty]) {tmps : Array Value} {w : World} {m g : Nat} {T : TypeId} {cs : List Value} (H : Blk w g T cs) (hp : tmps.getD p undef = .pointer (some ⟨g, 0, none⟩)) (ht : aggT P ty m = true) (hm : cs.length = m) :
    (results fn tmps).run P w = .ok (.agg cs.toArray) w := by
  have hp' : tmps[p]?.getD undef = .pointer (some ⟨g, 0, none⟩) := by simpa using hp
  simp [results, h, hp', asAddr, run_row H ht hm]
theorem results_row2 {fn : Func} {p u : Tmp} {ty : TypeId} (h : fn.results = #[.cell p ty, .tmp u]) {tmps : Array Value} {w : World} {m g : Nat} {T : TypeId} {cs : List Value} (H : Blk w g T cs) (hp : tmps.getD p undef = .pointer (some ⟨g, 0, none⟩)) (ht : aggT P ty m = true) (hm : cs.length = m) :
    (results fn tmps).run P w = .ok (.tuple #[.agg cs.toArray, tmps.getD u undef]) w := by
  have hp' : tmps[p]?.getD undef = .pointer (some ⟨g, 0, none⟩) := by simpa using hp
  simp [results, h, hp', asAddr, run_row H ht hm]
theorem results_row3 {fn : Func} {p u v : Tmp} {ty : TypeId} (h : fn.results = #[.cell p ty, .tmp u, .tmp v]) {tmps : Array Value} {w : World} {m g : Nat} {T : TypeId} {cs : List Value} (H : Blk w g T cs) (hp : tmps.getD p undef = .pointer (some ⟨g, 0, none⟩)) (ht : aggT P ty m = true) (hm : cs.length = m) :
    (results fn tmps).run P w = .ok (.tuple #[.agg cs.toArray, tmps.getD u undef, tmps.getD v undef]) w := by
  have hp' : tmps[p]?.getD undef = .pointer (some ⟨g, 0, none⟩) := by simpa using hp
  simp [results, h, hp', asAddr, run_row H ht hm]
end
end Agg
