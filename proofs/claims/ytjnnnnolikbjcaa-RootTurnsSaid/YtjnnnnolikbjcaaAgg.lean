/-
  OPERATIONS ON WHOLE ROWS OF CELLS (structs, arrays), over any program: one law an operation, so that no row of cells is opened. Without conditions but each law's own.
-/
import Derived.WalkKit
import Derived.ScopeJumps
import Derived.StillTailTactics
namespace Agg
open Go Go.RowKit
section
variable {P : Program} {ops : Array Oper} {rest : List Oper} {o : Oper} {a : Act} {w : World} {Q : Exit → Act → World → Prop}

/-- an operation whose run is known -/
theorem run (hg : o.guard = none) (v : Value) (w' : World) (hr : (execOp a.eval o).run P w = .ok (.value v) w') (h : wpList P ops Q rest (a.put o.dst v) w') : wpList P ops Q (o :: rest) a w :=
  wpList_plain hg fun _ hK => by
    unfold Oper.wp
    rw [hr]
    exact hK _ _ h
theorem runSkip (hg : o.guard = none) (w' : World) (hr : (execOp a.eval o).run P w = .ok .skip w') (h : wpList P ops Q rest (a.put o.dst undef) w') : wpList P ops Q (o :: rest) a w :=
  wpList_plain hg fun _ hK => by
    unfold Oper.wp
    rw [hr]
    exact hK _ _ h

/-- a row is stored over a whole block that was laid last -/
theorem run_store_new (t T : TypeId) (z cs : Array Value) (n : Nat) (hn : n = w.heap.size) (hs : (P.info? t).map (·.size) = some cs.size) (hz : z.size = cs.size) (h1 : ∀ v ∈ cs.toList, v.oneCell' = true) :
    (Instr.storeAt t (.pointer (some ⟨n, 0, none⟩)) (.agg cs)).run P (w.alloc (.cells z T)) = .ok () (w.alloc (.cells cs T)) := by
  subst hn
  cases hq : P.info? t with
  | none => simp [hq] at hs
  | some i =>
    have hi : i.size = cs.size := by simpa [hq] using hs
    have hst := run_storeCells_at P w.heap.size 0 T cs.toList 0 z (w.alloc (.cells z T)) (heap_alloc_new w _) (by simp [hz]) h1
    have e : (w.alloc (.cells z T)).setRow w.heap.size (z.toList.take (0 + 0) ++ cs.toList ++ z.toList.drop (0 + 0 + cs.toList.length)).toArray = w.alloc (.cells cs T) := by
      have hd : z.toList.drop cs.size = [] := List.drop_eq_nil_of_le (by simp [hz])
      simp only [Nat.add_zero, List.take_zero, List.nil_append, Nat.zero_add, Array.length_toList, hd, List.append_nil, Array.toArray_toList]
      unfold World.setRow World.alloc
      congr 1
      apply Array.ext_getElem?
      intro k
      simp only [Array.getElem?_modify, Array.getElem?_push]
      by_cases hk : w.heap.size = k
      · subst hk; simp
      · simp [hk, Ne.symm hk]
    rw [e] at hst
    simp [Instr.storeAt, Instr.sureAddr, storeVar, Go.sizeOf, typeInfo, hq, hi, Value.cells, hst]

theorem storeNew (t T : TypeId) (z cs : Array Value) (w0 : World) (n : Nat) (x y : Operand) (hg : o.guard = none) (ho : o.op = .store t x y) (hx : a.eval x = .pointer (some ⟨n, 0, none⟩)) (hy : a.eval y = .agg cs)
    (hw : w = w0.alloc (.cells z T)) (hn : n = w0.heap.size) (hs : (P.info? t).map (·.size) = some cs.size) (hz : z.size = cs.size) (h1 : ∀ v ∈ cs.toList, v.oneCell' = true)
    (h : wpList P ops Q rest (a.put o.dst undef) (w0.alloc (.cells cs T))) : wpList P ops Q (o :: rest) a w := by
  subst hw
  refine runSkip hg _ ?_ h
  simp only [execOp, ho, hx, hy, Sem.run_bind, run_store_new t T z cs n hn hs hz h1, Result.andThen_ok, Sem.run_pure]

/-- a region that draws its order: all but the last operations only read: they go in the order of the text -/
theorem stillTail {id : Nat} {l : List Oper} (n : Nat) (hm : P.follows .mixedOrders = true) (hB : Region.lexTailB .any l.toArray n = true)
    (h : ∀ K : Act → Prop, (∀ a', wpList P l.toArray Q (l.drop n) a' w.drew → K a') → wpStill P l.toArray w.drew K (l.take n) a) : (Code.region id l.toArray true).wp P Q a w :=
  wp_region_still_tail n hm hB (h _ fun _ h => h)
/-- .. all of them -/
theorem stillAll {id : Nat} {l : List Oper} (hm : P.follows .mixedOrders = true) (hB : Region.lexB .any l.toArray = true)
    (h : ∀ K : Act → Prop, (∀ a', Q .normal a' w.drew → K a') → wpStill P l.toArray w.drew K l a) : (Code.region id l.toArray true).wp P Q a w :=
  wp_region_still_lit hm hB (h _ fun _ h => h)

end

/-- a slice that reads as n elements of sz cells each -/
def SlR (w : World) (v : Value) (sz n : Nat) (cs : List Value) : Prop :=
  cs.length = n * sz ∧ ((v = .slice none 0 0 ∧ n = 0) ∨ ∃ x cap, v = .slice (some x) n cap ∧ n ≤ cap ∧ cap ≤ maxLen ∧ ∀ i u, cs[i]? = some u → w.cell? (x.add i) = some u)

theorem cell_keep {w w' : World} {a : Addr} {v : Value} (hb : Below w.heap.size w w') (h : w.cell? a = some v) : w'.cell? a = some v := by
  rw [hb.cell (block_lt_of_cell h)]; exact h
theorem SlR.keep {w w' : World} {v : Value} {sz n : Nat} {cs : List Value} (h : SlR w v sz n cs) (hb : Below w.heap.size w w') : SlR w' v sz n cs := by
  refine ⟨h.1, ?_⟩
  rcases h.2 with h2 | ⟨x, cap, hv, h3, h4, h5⟩
  · exact .inl h2
  · exact .inr ⟨x, cap, hv, h3, h4, fun i u hu => cell_keep hb (h5 i u hu)⟩
theorem SlR.nil (w : World) (sz : Nat) : SlR w (.slice none 0 0) sz 0 [] := ⟨by simp, .inl ⟨rfl, rfl⟩⟩
theorem ownSl {w : World} {base : Nat} {e : TypeId} {size : Nat} {v : Value} {n : Nat} {xs : List Value} (h : w.ownsRow base e size v n xs) : SlR w v size n xs := by
  refine ⟨h.1, ?_⟩
  rcases h.2 with ⟨h1, h2⟩ | ⟨g, cap, cur, rfl, hb, hg, hn, hm, hs, ht⟩
  · exact .inl ⟨h1, h2⟩
  · refine .inr ⟨_, cap, rfl, hn, hm, fun i u hu => ?_⟩
    have hcells := World.ownsRow.cells (g := g) h rfl
    exact hcells i u hu
theorem add_none (b o i : Nat) : (⟨b, o, none⟩ : Addr).add i = ⟨b, o + i, none⟩ := by unfold Addr.add; split <;> simp_all
/-- opened, where there is an element -/
theorem SlR.pos {w : World} {v : Value} {sz n : Nat} {cs : List Value} (h : SlR w v sz n cs) (hsz : 0 < sz) (hn : 0 < n) :
    ∃ b o cap, v = .slice (some ⟨b, o, none⟩) n cap ∧ n ≤ cap ∧ cap ≤ maxLen ∧ (∀ i u, cs[i]? = some u → w.cell? ⟨b, o + i, none⟩ = some u) ∧ b < w.heap.size := by
  rcases h.2 with ⟨_, h2⟩ | ⟨x, cap, rfl, h3, h4, h5⟩
  · omega
  · have hl : 0 < cs.length := by rw [h.1]; exact Nat.mul_pos hn hsz
    have h0 := h5 0 _ (List.getElem?_eq_getElem hl)
    obtain ⟨b, o, sp⟩ := x
    have e0 : (⟨b, o, sp⟩ : Addr).add 0 = ⟨b, o, sp⟩ := by simp [Addr.add]
    rw [e0] at h0
    obtain rfl : sp = none := World.cell?_spot h0
    exact ⟨b, o, cap, rfl, h3, h4, fun i u hu => by have := h5 i u hu; rwa [add_none] at this, block_lt_of_cell h0⟩
theorem SlR.shape {w : World} {v : Value} {sz n : Nat} {cs : List Value} (h : SlR w v sz n cs) : ∃ x cap, v = .slice x n cap ∧ n ≤ cap ∧ cap ≤ maxLen := by
  rcases h.2 with ⟨h1, h2⟩ | ⟨x, cap, rfl, h3, h4, h5⟩
  · subst h2; exact ⟨none, 0, h1, Nat.le_refl _, Nat.zero_le _⟩
  · exact ⟨some x, cap, rfl, h3, h4⟩
theorem SlR.take {w : World} {x : Option Addr} {cap sz n : Nat} {cs : List Value} (h : SlR w (.slice x n cap) sz n cs) (k : Nat) (hk : k ≤ n) : SlR w (.slice x k cap) sz k (cs.take (k * sz)) := by
  refine ⟨by rw [List.length_take, h.1]; exact Nat.min_eq_left (Nat.mul_le_mul_right _ hk), ?_⟩
  rcases h.2 with ⟨h1, h2⟩ | ⟨x', cap', h1, h3, h4, h5⟩
  · simp only [Value.slice.injEq] at h1
    obtain ⟨rfl, _, rfl⟩ := h1
    have : k = 0 := by omega
    subst this; exact .inl ⟨rfl, rfl⟩
  · simp only [Value.slice.injEq, true_and] at h1
    obtain ⟨rfl, rfl⟩ := h1
    refine .inr ⟨x', cap, rfl, by omega, h4, fun i u hu => ?_⟩
    rw [List.getElem?_take] at hu
    split at hu
    · exact h5 i u hu
    · cases hu

/-- what the program's table says of a slice's type -/
structure TI (P : Program) (t e : TypeId) (size bytes : Nat) (z : Value) : Prop where
  ht : P.underlying t = some (.slice e)
  hi : (P.info? e).map (fun i => (i.zero, i.size, i.bytes)) = some (some z, size, bytes)
  hzs : z.cells.size = size
  hsz : 0 < size
theorem TI.info {P : Program} {t e : TypeId} {size bytes : Nat} {z : Value} (T : TI P t e size bytes z) : ∃ i, P.info? e = some i ∧ i.zero = some z ∧ i.size = size ∧ i.bytes = bytes := by
  have := T.hi
  cases h : P.info? e with
  | none => simp [h] at this
  | some i => simp [h] at this; exact ⟨i, rfl, this.1, this.2.1, this.2.2⟩

theorem run_append_sl {P : Program} {t e : TypeId} {size bytes : Nat} {z : Value} (T : TI P t e size bytes z) (ty : TypeId) (w : World) (base : Nat) {v : Value} {n : Nat} {xs : List Value} (hown : w.ownsRow base e size v n xs)
    {xv : Value} {m : Nat} {news : List Value} (hsl : SlR w xv size m news) (h1 : ∀ u ∈ news, u.oneCell' = true) (h63 : n + m ≤ maxLen) (hbytes : (n + m) * bytes ≤ 140737488355328) (hbase : base ≤ w.heap.size) :
    ∃ v' w', (Builtin.append_ #[t, t] ty #[v, xv]).run P w = .ok v' w' ∧ w'.ownsRow base e size v' (n + m) (xs ++ news) ∧ w.grownBy w' v.ownBlock ∧ (v' = .slice none 0 0 ↔ v = .slice none 0 0 ∧ m = 0) := by
  obtain ⟨i, hi, hz, hs, hb⟩ := T.info
  rcases hsl.2 with ⟨rfl, rfl⟩ | ⟨x, cap, rfl, _, _, h5⟩
  · have hn : news = [] := List.eq_nil_of_length_eq_zero (by rw [hsl.1]; simp)
    subst hn
    refine ⟨v, w, run_append_owned_none w base t ty e i size T.ht hi v n xs hown, by simpa using hown, ⟨rfl, rfl, rfl, Nat.le_refl _, fun _ _ _ => rfl⟩, by simp⟩
  · exact run_append_own w base t ty e i z size bytes T.ht hi hz hs hb T.hzs T.hsz v n xs hown x m cap news hsl.1 h5 h1 h63 hbytes hbase

section
variable {P : Program} {ops : Array Oper} {rest : List Oper} {o : Oper} {a : Act} {w : World} {Q : Exit → Act → World → Prop}
theorem append {t e : TypeId} {size bytes : Nat} {z : Value} (T : TI P t e size bytes z) (s x : Operand) (hg : o.guard = none) (ho : o.op = .call { callee := .builtin .append, args := #[s, x], argTypes := #[t, t] })
    (base : Nat) {v : Value} {n : Nat} {xs : List Value} (hs : a.eval s = v) (hown : w.ownsRow base e size v n xs) {xv : Value} {m : Nat} {news : List Value} (hx : a.eval x = xv) (hsl : SlR w xv size m news)
    (h1 : ∀ u ∈ news, u.oneCell' = true) (h63 : n + m ≤ maxLen) (hbytes : (n + m) * bytes ≤ 140737488355328) (hbase : base ≤ w.heap.size)
    (h : ∀ v' w', w'.ownsRow base e size v' (n + m) (xs ++ news) → w.grownBy w' v.ownBlock → (v' = .slice none 0 0 ↔ v = .slice none 0 0 ∧ m = 0) → wpList P ops Q rest (a.put o.dst v') w') : wpList P ops Q (o :: rest) a w := by
  obtain ⟨v', w', hr, h2, h3, h4⟩ := run_append_sl T o.type w base hown hsl h1 h63 hbytes hbase
  refine run hg v' w' ?_ (h v' w' h2 h3 h4)
  simp [execOp, ho, resolve, hs, hx, invoke, builtin, hr]
theorem make {t e : TypeId} {size bytes : Nat} {z : Value} (T : TI P t e size bytes z) (x y : Operand) (hg : o.guard = none) (ho : o.op = .makeSlice t x y) {kl kc : IntKind} (l c : Nat) {li ci : Int}
    (hx : a.eval x = .int kl li) (hy : a.eval y = .int kc ci) (hl : li = (l : Int)) (hc : ci = (c : Int)) (hlc : l ≤ c) (hb : c * bytes ≤ 140737488355328) (h63 : c ≤ maxLen)
    (h : wpList P ops Q rest (a.put o.dst (.slice (some ⟨w.heap.size, 0, none⟩) l c)) (w.alloc (.cells (madeCells z.cells (c * size)) e))) : wpList P ops Q (o :: rest) a w := by
  obtain ⟨i, hi, hz, hs, hbt⟩ := T.info
  subst hl; subst hc
  have h63' : (c : Int) ≤ 9223372036854775807 := by unfold maxLen at h63; omega
  have hb' : (i.bytes : Int) * (c : Int) ≤ 281474976710656 := by
    rw [hbt, ← Int.natCast_mul, Nat.mul_comm]; omega
  have hr := run_make (P := P) w t e i z T.ht hi hz kl kc l c (by omega) (by omega) hb' h63'
  simp only [Int.toNat_natCast, hs] at hr
  refine run hg _ _ ?_ h
  simp only [execOp, ho, hx, hy, Sem.run_bind, hr, Result.andThen_ok, Sem.run_pure]
theorem grown_below {w w' : World} {B : Nat} {row : Option Nat} (hg : w.grownBy w' row) (hB : B ≤ w.heap.size) (hr : ∀ k, row = some k → B ≤ k) : Below B w w' := (Below.refl B w).grown hg hB hr
theorem own_block {w : World} {base : Nat} {e : TypeId} {size : Nat} {v : Value} {n : Nat} {xs : List Value} (h : w.ownsRow base e size v n xs) : ∀ k, v.ownBlock = some k → base ≤ k := fun k hk => (h.lt k hk).1
end

theorem run_min {P : Program} (ts : Array TypeId) (t : TypeId) (k k' : IntKind) (x y : Int) (w : World) : (Builtin.min_ ts t #[.int k x, .int k' y]).run P w = .ok (.int k (min x y)) w := by
  have : min x y = if y < x then y else x := by rw [Int.min_def]; split <;> split <;> omega
  rw [this]; rfl
theorem run_max {P : Program} (ts : Array TypeId) (t : TypeId) (k k' : IntKind) (x y : Int) (w : World) : (Builtin.max_ ts t #[.int k x, .int k' y]).run P w = .ok (.int k (max x y)) w := by
  have : max x y = if x < y then y else x := by rw [Int.max_def]; split <;> split <;> omega
  rw [this]; rfl
section
variable {P : Program} {ops : Array Oper} {rest : List Oper} {o : Oper} {a : Act} {w : World} {Q : Exit → Act → World → Prop}
theorem min2 (x y : Operand) (ts : Array TypeId) {k k' : IntKind} {m n : Int} (r : Int) (hg : o.guard = none) (ho : o.op = .call { callee := .builtin .min, args := #[x, y], argTypes := ts })
    (hx : a.eval x = .int k m) (hy : a.eval y = .int k' n) (hr : min m n = r) (h : wpList P ops Q rest (a.put o.dst (.int k r)) w) : wpList P ops Q (o :: rest) a w := by
  subst hr
  refine run hg _ w ?_ h
  simp [execOp, ho, resolve, hx, hy, invoke, builtin, run_min]
theorem max2 (x y : Operand) (ts : Array TypeId) {k k' : IntKind} {m n : Int} (r : Int) (hg : o.guard = none) (ho : o.op = .call { callee := .builtin .max, args := #[x, y], argTypes := ts })
    (hx : a.eval x = .int k m) (hy : a.eval y = .int k' n) (hr : max m n = r) (h : wpList P ops Q rest (a.put o.dst (.int k r)) w) : wpList P ops Q (o :: rest) a w := by
  subst hr
  refine run hg _ w ?_ h
  simp [execOp, ho, resolve, hx, hy, invoke, builtin, run_max]
end
/-- bytes as values -/
def bv (l : List UInt8) : List Value := l.map fun c => .int .u8 (c.toNat : Int)
theorem bv_length (l : List UInt8) : (bv l).length = l.length := by simp [bv]
theorem bv_get (l : List UInt8) (i : Nat) (h : i < l.length) : (bv l)[i]? = some (.int .u8 (l[i].toNat : Int)) := by simp [bv, h]
theorem bv_one (l : List UInt8) : ∀ u ∈ bv l, u.oneCell' = true := by
  intro u hu
  obtain ⟨c, _, rfl⟩ := List.mem_map.1 hu
  rfl
theorem bv_append (l m : List UInt8) : bv (l ++ m) = bv l ++ bv m := List.map_append
theorem bv_take (l : List UInt8) (k : Nat) : bv (l.take k) = (bv l).take k := List.map_take
theorem bv_drop (l : List UInt8) (k : Nat) : bv (l.drop k) = (bv l).drop k := List.map_drop
/-- a slice that reads as bytes -/
def Bytes (w : World) (v : Value) (l : List UInt8) : Prop := SlR w v 1 l.length (bv l)
theorem Bytes.keep {w w' : World} {v : Value} {l : List UInt8} (h : Bytes w v l) (hb : Below w.heap.size w w') : Bytes w' v l := SlR.keep h hb
/-- a scope to whose label the run jumps back -/
theorem scopeJumps {P : Program} {a : Act} {w : World} {Q : Exit → Act → World → Prop} {c r : Code} (l : Nat) (J : Act → World → Prop) (μ : Act → World → Nat) (hf : findLabel c l = some (.seq .skip r))
    (pass : ∀ a w, J a w → r.wp P (Exit.jump l (fun a' w' => J a' w' ∧ μ a' w' < μ a w) Q) a w)
    (first : Hid (∀ a w, J a w → r.wp P (Exit.jump l J Q) a w) → c.wp P (Exit.jump l J Q) a w) : (Code.scope c).wp P Q a w :=
  wp_scope_jumps l J μ hf (first fun a w h => wp_mono (pass a w h) (fun e a w q => by cases e <;> first | exact q | exact ⟨q.1, q.2.1⟩)) (fun a w h => wp_seq (wp_skip (pass a w h)))
/-- a row is stored over a whole block -/
theorem run_store_row {P : Program} (t T : TypeId) (z cs : Array Value) (g : Nat) (w : World) (hgb : w.heap[g]? = some (.cells z T (0, 0))) (hs : (P.info? t).map (·.size) = some cs.size) (hz : z.size = cs.size) (h1 : ∀ v ∈ cs.toList, v.oneCell' = true) :
    (Instr.storeAt t (.pointer (some ⟨g, 0, none⟩)) (.agg cs)).run P w = .ok () (w.setRow g cs) := by
  cases hq : P.info? t with
  | none => simp [hq] at hs
  | some i =>
    have hi : i.size = cs.size := by simpa [hq] using hs
    have hst := run_storeCells_at P g 0 T cs.toList 0 z w hgb (by simp [hz]) h1
    have hd : z.toList.drop cs.size = [] := List.drop_eq_nil_of_le (by simp [hz])
    simp only [Nat.add_zero, List.take_zero, List.nil_append, Nat.zero_add, Array.length_toList, hd, List.append_nil, Array.toArray_toList] at hst
    simp [Instr.storeAt, Instr.sureAddr, storeVar, Go.sizeOf, typeInfo, hq, hi, Value.cells, hst]
def oneOf : TypeDesc → Bool
  | .struct _ | .array _ _ => false
  | _ => true
/-- an element of an array that is a value -/
theorem run_index {P : Program} (t e : TypeId) (len : Nat) (d : TypeDesc) (cs : Array Value) (k : IntKind) (n : Nat) (v : Value) (w : World) (ht : P.underlying t = some (.array len e)) (he : P.underlying e = some d) (hd : oneOf d = true)
    (hs : (P.info? e).map (·.size) = some 1) (hn : n < len) (hv : cs[n]? = some v) : (Instr.index t (.agg cs) (.int k (n : Int))).run P w = .ok v w := by
  cases hq : P.info? e with
  | none => simp [hq] at hs
  | some i =>
    have hi : i.size = 1 := by simpa [hq] using hs
    have hagg : (isAgg e).run P w = .ok false w := by
      unfold isAgg
      rw [Sem.run_bind, run_underlying he w]
      cases d <;> simp_all [oneOf]
    simp [Instr.index, asIntOf, run_underlying ht, hn, Go.sizeOf, typeInfo, hq, hi, part, hagg, hv]
section
variable {P : Program} {ops : Array Oper} {rest : List Oper} {o : Oper} {a : Act} {w : World} {Q : Exit → Act → World → Prop}
theorem index (t e : TypeId) (len : Nat) (d : TypeDesc) (cs : Array Value) (k : IntKind) (n : Nat) (v : Value) (x y : Operand) (hg : o.guard = none) (ho : o.op = .index t x y) (hx : a.eval x = .agg cs) (hy : a.eval y = .int k (n : Int))
    (ht : P.underlying t = some (.array len e)) (he : P.underlying e = some d) (hd : oneOf d = true)
    (hs : (P.info? e).map (·.size) = some 1) (hn : n < len) (hv : cs[n]? = some v) (h : wpList P ops Q rest (a.put o.dst v) w) : wpList P ops Q (o :: rest) a w := by
  refine run hg v w ?_ h
  simp only [execOp, ho, hx, hy, Sem.run_bind, run_index t e len d cs k n v w ht he hd hs hn hv, Result.andThen_ok, Sem.run_pure]
theorem allocRow (t : TypeId) (z : Array Value) (hg : o.guard = none) (ho : o.op = .alloc t) (hz : (P.info? t).map (·.zero) = some (some (.agg z)))
    (h : wpList P ops Q rest (a.put o.dst (.pointer (some ⟨w.heap.size, 0, none⟩))) (w.alloc (.cells z t))) : wpList P ops Q (o :: rest) a w := by
  refine run hg _ _ ?_ h
  cases hq : P.info? t with
  | none => simp [hq] at hz
  | some i =>
    have hi : i.zero = some (.agg z) := by simpa [hq] using hz
    simp [execOp, ho, Instr.alloc, zeroValue, typeInfo, hq, hi, newVar, newRow, Value.cells]
/-- a row is loaded whole, wherever it lies -/
theorem run_load_at {P : Program} (t : TypeId) (d : TypeDesc) (cs : List Value) (x : Addr) (w : World) (hu : P.underlying t = some d) (hd : oneOf d = false) (hs : (P.info? t).map (·.size) = some cs.length)
    (hc : ∀ i v, cs[i]? = some v → w.cell? (x.add i) = some v) : (Instr.loadAt t (.pointer (some x))).run P w = .ok (.agg cs.toArray) w := by
  cases hq : P.info? t with
  | none => simp [hq] at hs
  | some i =>
    have hi : i.size = cs.length := by simpa [hq] using hs
    have hagg : (isAgg t).run P w = .ok true w := by
      unfold isAgg
      rw [Sem.run_bind, run_underlying hu w]
      cases d <;> simp_all [oneOf]
    have hl := run_loadCells_list (P := P) w x cs hc
    simp [Instr.loadAt, Instr.sureAddr, loadVar, hagg, Go.sizeOf, typeInfo, hq, hi, hl]
theorem loadAt (t : TypeId) (d : TypeDesc) (cs : List Value) (x : Addr) (y : Operand) (hg : o.guard = none) (ho : o.op = .load t y) (hy : a.eval y = .pointer (some x)) (hu : P.underlying t = some d) (hd : oneOf d = false) (hs : (P.info? t).map (·.size) = some cs.length)
    (hc : ∀ i v, cs[i]? = some v → w.cell? (x.add i) = some v) (h : wpList P ops Q rest (a.put o.dst (.agg cs.toArray)) w) : wpList P ops Q (o :: rest) a w := by
  refine run hg _ w ?_ h
  simp only [execOp, ho, hy, Sem.run_bind, run_load_at t d cs x w hu hd hs hc, Result.andThen_ok, Sem.run_pure]
theorem storeRow (t T : TypeId) (z cs : Array Value) (g : Nat) (x y : Operand) (hg : o.guard = none) (ho : o.op = .store t x y) (hx : a.eval x = .pointer (some ⟨g, 0, none⟩)) (hy : a.eval y = .agg cs)
    (hgb : w.heap[g]? = some (.cells z T (0, 0))) (hs : (P.info? t).map (·.size) = some cs.size) (hz : z.size = cs.size) (h1 : ∀ v ∈ cs.toList, v.oneCell' = true)
    (h : wpList P ops Q rest (a.put o.dst undef) (w.setRow g cs)) : wpList P ops Q (o :: rest) a w := by
  refine runSkip hg _ ?_ h
  simp only [execOp, ho, hx, hy, Sem.run_bind, run_store_row t T z cs g w hgb hs hz h1, Result.andThen_ok, Sem.run_pure]
end
/-- rows of bytes -/
def Rows2 (w : World) (v : Value) (ls : List (List UInt8)) : Prop := ∃ vs : List Value, SlR w v 1 ls.length vs ∧ ∀ (i : Nat) (l : List UInt8), ls[i]? = some l → ∃ u, vs[i]? = some u ∧ Bytes w u l
theorem Rows2.keep {w w' : World} {v : Value} {ls : List (List UInt8)} (h : Rows2 w v ls) (hb : Below w.heap.size w w') : Rows2 w' v ls := by
  obtain ⟨vs, h1, h2⟩ := h
  exact ⟨vs, h1.keep hb, fun i l hl => by obtain ⟨u, hu, hb'⟩ := h2 i l hl; exact ⟨u, hu, hb'.keep hb⟩⟩
/-- bytes that are made of a constant: the block is marked behind its end -/
def wmark (w : World) (cs : Array Value) (e : TypeId) : World := w.alloc (.cells cs e (cs.size, cs.size + 1))
theorem run_mark {P : Program} {t e : TypeId} (ht : P.underlying t = some (.slice e)) (he : P.underlying e = some (.int .u8)) (w : World) (cs : Array Value) (n c g : Nat) (hg : g = w.heap.size) :
    (convert t t (.slice (some ⟨g, 0, none⟩) n c)).run P (w.alloc (.cells cs e)) = .ok (.slice (some ⟨g, 0, none⟩) n c) (wmark w cs e) := by
  subst hg
  have hsh : (w.alloc (.cells cs e)).shape? w.heap.size = some (e, cs.size) := by
    have hg : (w.alloc (.cells cs e)).heap[w.heap.size]? = some (.cells cs e) := heap_alloc_new w _
    unfold World.shape?; rw [hg]
  have hfr : (w.alloc (.cells cs e)).freeze ⟨w.heap.size, cs.size, none⟩ 1 = wmark w cs e := by
    unfold World.freeze wmark World.alloc
    simp only [Nat.one_ne_zero, if_false]
    congr 1
    apply Array.ext_getElem?
    intro k
    simp only [Array.getElem?_modify, Array.getElem?_push]
    by_cases hk : w.heap.size = k
    · subst hk; simp
    · simp [hk, Ne.symm hk]
  have hm : (markStringish ⟨w.heap.size, 0, none⟩).run P (w.alloc (.cells cs e)) = .ok () (wmark w cs e) := by
    unfold markStringish
    simp only [Sem.run_bind]
    show ((Result.ok ((w.alloc (.cells cs e)).shape? w.heap.size) (w.alloc (.cells cs e))).andThen _) = _
    rw [hsh]
    simp only [Result.andThen_ok]
    show Result.ok () ((w.alloc (.cells cs e)).freeze ⟨w.heap.size, cs.size, none⟩ 1) = _
    rw [hfr]
  simp [convert, run_underlying ht, run_underlying he, hm]
theorem wmark_sl (w : World) (cs : Array Value) (e : TypeId) (n : Nat) (hn : cs.size = n) (hm : n ≤ maxLen) : SlR (wmark w cs e) (.slice (some ⟨w.heap.size, 0, none⟩) n n) 1 n cs.toList := by
  refine ⟨by simp [hn], .inr ⟨_, n, rfl, Nat.le_refl _, hm, fun i u hu => ?_⟩⟩
  have hg : (wmark w cs e).heap[w.heap.size]? = some (.cells cs e (cs.size, cs.size + 1)) := heap_alloc_new w _
  rw [add_none, Nat.zero_add, cell_of_row _ _ _ _ _ _ hg]
  simpa using hu
theorem wmark_below {B : Nat} {w : World} (cs : Array Value) (e : TypeId) (h : B ≤ w.heap.size) : Below B w (wmark w cs e) := (Below.refl B w).alloc h _
section
variable {P : Program} {ops : Array Oper} {rest : List Oper} {o : Oper} {a : Act} {w : World} {Q : Exit → Act → World → Prop}
theorem mark (t e : TypeId) (x : Operand) (cs : Array Value) (w0 : World) (n c g : Nat) (hgd : o.guard = none) (ho : o.op = .convert t t x) (hx : a.eval x = .slice (some ⟨g, 0, none⟩) n c) (hw : w = w0.alloc (.cells cs e)) (hg : g = w0.heap.size)
    (ht : P.underlying t = some (.slice e)) (he : P.underlying e = some (.int .u8)) (h : wpList P ops Q rest (a.put o.dst (.slice (some ⟨g, 0, none⟩) n c)) (wmark w0 cs e)) : wpList P ops Q (o :: rest) a w := by
  subst hw
  refine run hgd _ _ ?_ h
  simp only [execOp, ho, hx, Sem.run_bind, run_mark ht he w0 cs n c g hg, Result.andThen_ok, Sem.run_pure]
end
/-! ### one operation after the other, in a region whose operations only read -/
def oneT (P : Program) (t : TypeId) : Bool := match P.underlying t with | some d => oneOf d | none => false
theorem oneT_agg {P : Program} {t : TypeId} (h : oneT P t = true) (w : World) : (isAgg t).run P w = .ok false w := by
  unfold oneT at h
  split at h
  · rename_i d hd
    unfold isAgg
    rw [Sem.run_bind, run_underlying hd w]
    cases d <;> simp_all [oneOf]
  · cases h
theorem run_load_one {P : Program} {t : TypeId} (ht : oneT P t = true) {x : Addr} {v : Value} {w : World} (hc : w.cell? x = some v) : (Instr.loadAt t (.pointer (some x))).run P w = .ok v w := by
  simp [Instr.loadAt, Instr.sureAddr, loadVar, oneT_agg ht, load, hc, Sem.run]
theorem run_index_sl {P : Program} {t e : TypeId} {sz : Nat} (ht : P.underlying t = some (.slice e)) (hs : (P.info? e).map (·.size) = some sz) (x : Addr) (len cap : Nat) (k : IntKind) (i : Int) (h0 : 0 ≤ i) (hn : i < len) (w : World) :
    (Instr.indexAt t (.slice (some x) len cap) (.int k i)).run P w = .ok (.pointer (some (x.add (i.toNat * sz)))) w := by
  cases hq : P.info? e with
  | none => simp [hq] at hs
  | some j =>
    have hj : j.size = sz := by simpa [hq] using hs
    simp [Instr.indexAt, asIntOf, run_underlying ht, h0, hn, Go.sizeOf, typeInfo, hq, hj]
theorem wn {o : Oper} {y : Nat → Option Bool} (hg : o.guard = none) : Region.wanted o y = true := by simp [Region.wanted, hg]
theorem wy {o : Oper} {y : Nat → Option Bool} {j : Nat} {b : Bool} (hg : o.guard = some (j, b)) (hy : y j = some b) : Region.wanted o y = true := by simp [Region.wanted, hg, hy]
theorem wf' {o : Oper} {y : Nat → Option Bool} {j : Nat} {b c : Bool} (hg : o.guard = some (j, b)) (hy : y j = some c) (hne : (c == b) = false) : Region.wanted o y = false := by
  simp only [Region.wanted, hg, hy]; exact hne
theorem wu {o : Oper} {y : Nat → Option Bool} {j : Nat} {b : Bool} (hg : o.guard = some (j, b)) (hy : y j = none) : Region.wanted o y = false := by
  simp only [Region.wanted, hg, hy]; rfl
/-- what an operand reads as, over a list of slots -/
def ev (l : List Value) : Operand → Value
  | .tmp t => l.getD t undef
  | .const v => v
  | .global g => .pointer (some ⟨g, 0, none⟩)
  | .func f => .func (.func f) #[] #[]
theorem ev_eq (l : List Value) (ds : List Deferred) : (Act.mk l.toArray ds).eval = ev l := by
  funext x
  cases x with
  | tmp t => simp [Act.eval, ev, List.getD]
  | const v => rfl
  | global g => rfl
  | func f => rfl
theorem put_eq (l : List Value) (ds : List Deferred) (d : Nat) (v : Value) : (Act.mk l.toArray ds).put (some d) v = ⟨(l.set d v).toArray, ds⟩ := by simp [Act.put]
section
variable {P : Program} {ops : Array Oper} {rest : List Oper} {o : Oper} {l : List Value} {ds : List Deferred} {w : World} {Q : Act → Prop} {d : Nat}
theorem stVal (hw : Region.wanted o (yielded ops l.toArray) = true) (hd : o.dst = some d) (v : Value) (hr : (execOp (ev l) o).run P w = .ok (.value v) w) (h : wpStill P ops w Q rest ⟨(l.set d v).toArray, ds⟩) : wpStill P ops w Q (o :: rest) ⟨l.toArray, ds⟩ := by
  unfold wpStill
  rw [if_pos hw, Oper.still, ev_eq, hr, Oper.stillUpon_value, hd, put_eq]
  exact h
theorem stSkip (hw : Region.wanted o (yielded ops l.toArray) = false) (hd : o.dst = some d) (h : wpStill P ops w Q rest ⟨(l.set d undef).toArray, ds⟩) : wpStill P ops w Q (o :: rest) ⟨l.toArray, ds⟩ := by
  unfold wpStill
  rw [if_neg (by rw [hw]; decide), hd, put_eq]
  exact h
theorem stLoad {t : TypeId} {y : Operand} (ho : o.op = .load t y) (hw : Region.wanted o (yielded ops l.toArray) = true) (hd : o.dst = some d) {x : Addr} (hy : ev l y = .pointer (some x)) (ht : oneT P t = true) {v : Value} (hc : w.cell? x = some v)
    (h : wpStill P ops w Q rest ⟨(l.set d v).toArray, ds⟩) : wpStill P ops w Q (o :: rest) ⟨l.toArray, ds⟩ :=
  stVal hw hd v (by simp only [execOp, ho, hy, Sem.run_bind, run_load_one ht hc, Result.andThen_ok, Sem.run_pure]) h
theorem stIdx {t e : TypeId} {sz bytes : Nat} {z : Value} (T : TI P t e sz bytes z) {x y : Operand} (ho : o.op = .indexAddr t x y) (hw : Region.wanted o (yielded ops l.toArray) = true) (hd : o.dst = some d) {b f len cap : Nat} {k : IntKind} {i : Int} (hx : ev l x = .slice (some ⟨b, f, none⟩) len cap) (hy : ev l y = .int k i)
    (h0 : 0 ≤ i) (hn : i < len)
    (h : wpStill P ops w Q rest ⟨(l.set d (.pointer (some ⟨b, f + i.toNat * sz, none⟩))).toArray, ds⟩) : wpStill P ops w Q (o :: rest) ⟨l.toArray, ds⟩ := by
  obtain ⟨j, hj, _, hs, _⟩ := T.info
  exact stVal hw hd _ (by simp only [execOp, ho, hx, hy, Sem.run_bind, run_index_sl T.ht (by rw [hj]; exact congrArg some hs) _ len cap k i h0 hn, Result.andThen_ok, Sem.run_pure, add_none]) h
theorem stAdd {t t' : TypeId} {x y : Operand} (ho : o.op = .binOp .add t x y t') (hw : Region.wanted o (yielded ops l.toArray) = true) (hd : o.dst = some d) {m n : Int} (hx : ev l x = .int .i64 m) (hy : ev l y = .int .i64 n) (h0 : -9223372036854775808 ≤ m + n) (h1 : m + n ≤ 9223372036854775807)
    (h : wpStill P ops w Q rest ⟨(l.set d (.int .i64 (m + n))).toArray, ds⟩) : wpStill P ops w Q (o :: rest) ⟨l.toArray, ds⟩ := by
  have e : IntKind.i64.wrap (m + n) = m + n := by rw [IntKind.wrap_i64]; omega
  refine stVal hw hd (.int .i64 (m + n)) ?_ h
  simp only [execOp, ho, hx, hy]
  show (Result.ok (Next.value (.int .i64 (IntKind.i64.wrap (m + n)))) w : Result Next) = _
  rw [e]
theorem stEql {t t' : TypeId} {x y : Operand} (ho : o.op = .binOp .eql t x y t') (hw : Region.wanted o (yielded ops l.toArray) = true) (hd : o.dst = some d) {k : IntKind} {m n : Int} (hx : ev l x = .int k m) (hy : ev l y = .int k n) {b : Bool} (hb : (m == n) = b)
    (h : wpStill P ops w Q rest ⟨(l.set d (.bool b)).toArray, ds⟩) : wpStill P ops w Q (o :: rest) ⟨l.toArray, ds⟩ := by
  subst hb
  refine stVal hw hd _ ?_ h
  simp only [execOp, ho, hx, hy]
  cases k <;> rfl
theorem stNeq {t t' : TypeId} {x y : Operand} (ho : o.op = .binOp .neq t x y t') (hw : Region.wanted o (yielded ops l.toArray) = true) (hd : o.dst = some d) {k : IntKind} {m n : Int} (hx : ev l x = .int k m) (hy : ev l y = .int k n) {b : Bool} (hb : (m != n) = b)
    (h : wpStill P ops w Q rest ⟨(l.set d (.bool b)).toArray, ds⟩) : wpStill P ops w Q (o :: rest) ⟨l.toArray, ds⟩ := by
  subst hb
  refine stVal hw hd _ ?_ h
  simp only [execOp, ho, hx, hy]
  cases k <;> rfl
theorem stMove {x : Operand} (ho : o.op = .move x) (hw : Region.wanted o (yielded ops l.toArray) = true) (hd : o.dst = some d) (h : wpStill P ops w Q rest ⟨(l.set d (ev l x)).toArray, ds⟩) : wpStill P ops w Q (o :: rest) ⟨l.toArray, ds⟩ :=
  stVal hw hd (ev l x) (by simp only [execOp, ho, Sem.run_pure]) h
theorem stAssign {x : Operand} (ho : o.op = .assign x) (hw : Region.wanted o (yielded ops l.toArray) = true) (hd : o.dst = some d) (h : wpStill P ops w Q rest ⟨(l.set d (ev l x)).toArray, ds⟩) : wpStill P ops w Q (o :: rest) ⟨l.toArray, ds⟩ :=
  stVal hw hd (ev l x) (by simp only [execOp, ho, Sem.run_pure]) h
theorem stPick1 {c x y : Operand} (ho : o.op = .pick c x y) (hc : ev l c = .bool true) (hw : Region.wanted o (yielded ops l.toArray) = true) (hd : o.dst = some d) (h : wpStill P ops w Q rest ⟨(l.set d (ev l x)).toArray, ds⟩) : wpStill P ops w Q (o :: rest) ⟨l.toArray, ds⟩ :=
  stVal hw hd (ev l x) (by simp [execOp, ho, hc, asBool]) h
theorem stPick0 {c x y : Operand} (ho : o.op = .pick c x y) (hc : ev l c = .bool false) (hw : Region.wanted o (yielded ops l.toArray) = true) (hd : o.dst = some d) (h : wpStill P ops w Q rest ⟨(l.set d (ev l y)).toArray, ds⟩) : wpStill P ops w Q (o :: rest) ⟨l.toArray, ds⟩ :=
  stVal hw hd (ev l y) (by simp [execOp, ho, hc, asBool]) h
end
end Agg
