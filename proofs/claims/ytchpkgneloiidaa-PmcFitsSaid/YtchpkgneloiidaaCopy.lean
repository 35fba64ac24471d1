/-
  APPEND, once more: where the row lies behind it. Over any program.
-/
import Derived.Lib.Hide
import Derived.Deep.Draws
import Derived.Laws.CopyRow
import Derived.Laws.Slices
import Derived.Test.YtchpkgneloiidaaAgg
section
namespace Agg
open Go Go.RowKit

theorem append_where {P : Program} {t e : TypeId} {size bytes : Nat} {z : Value} (T : TI P t e size bytes z) (ty : TypeId) (w : World) (base : Nat) {v : Value} {n : Nat} {xs : List Value} (hown : w.ownsRow base e size v n xs)
    {xv : Value} {m : Nat} {news : List Value} (hsl : SlR w xv size m news) (h1 : ∀ u ∈ news, u.oneCell' = true) (h63 : n + m ≤ maxLen) (hbytes : (n + m) * bytes ≤ 140737488355328) {v' : Value} {w' : World}
    (hr : (Builtin.append_ #[t, t] ty #[v, xv]).run P w = .ok v' w') : v'.ownBlock = v.ownBlock ∨ v'.ownBlock = some w.heap.size := by
  obtain ⟨i, hi, hz, hs, hb⟩ := T.info
  have hm' : n + m ≤ 9223372036854775807 := by unfold maxLen at h63; omega
  rcases hsl.2 with ⟨rfl, rfl⟩ | ⟨x, cap, rfl, _, _, h5⟩
  · rw [run_append_owned_none w base t ty e i size T.ht hi v n xs hown] at hr
    cases hr
    exact .inl rfl
  · rcases hown.2 with ⟨rfl, rfl⟩ | ⟨g, cap', cur, rfl, hbg, hg, hnc, hcm, hcs, htake⟩
    · rcases Nat.eq_zero_or_pos m with hm | hm
      · subst hm
        have hn : news = [] := List.eq_nil_of_length_eq_zero (by rw [hsl.1]; simp)
        obtain ⟨v2, w2, hr2, _, _, hnil⟩ := run_append_sl T ty w w.heap.size (World.ownsRow_nil w _ e size) hsl h1 (by simp) (by simp) (Nat.le_refl _)
        rw [hr2] at hr
        cases hr
        exact .inl (by rw [hnil.2 ⟨rfl, rfl⟩])
      · have hrun := run_append_nil (P := P) w t ty e i z T.ht hi hz x m cap news (by rw [hs]; exact hsl.1) h5 hm (by omega) (by rw [hb]; rw [Nat.zero_add] at hbytes; omega)
        rw [hrun] at hr
        cases hr
        exact .inr rfl
    · by_cases hfit : n + m ≤ cap'
      · obtain ⟨w2, hr2, _, _⟩ := run_append_fits (P := P) w base t ty e i size T.ht hi hs g n cap' xs hown x m cap news hsl.1 h5 h1 hfit
        rw [hr2] at hr
        cases hr
        exact .inl rfl
      · have hrun := run_append_grow (P := P) w t ty e i z T.ht hi hz ⟨g, 0, none⟩ n cap' xs (by rw [hs]; exact hown.1) (World.ownsRow.cells (g := g) hown rfl) x m cap news (by rw [hs]; exact hsl.1) h5 (by omega) (by omega)
          (by rw [hb]; exact growslice_fits (by omega) hbytes)
        rw [hrun] at hr
        cases hr
        exact .inr rfl

section
variable {P : Program} {ops : Array Oper} {rest : List Oper} {o : Oper} {a : Act} {w : World} {Q : Exit → Act → World → Prop}
theorem append2 {t e : TypeId} {size bytes : Nat} {z : Value} (T : TI P t e size bytes z) (s x : Operand) (hg : o.guard = none) (ho : o.op = .call { callee := .builtin .append, args := #[s, x], argTypes := #[t, t] })
    (base : Nat) {v : Value} {n : Nat} {xs : List Value} (hs : a.eval s = v) (hown : w.ownsRow base e size v n xs) {xv : Value} {m : Nat} {news : List Value} (hx : a.eval x = xv) (hsl : SlR w xv size m news)
    (h1 : ∀ u ∈ news, u.oneCell' = true) (h63 : n + m ≤ maxLen) (hbytes : (n + m) * bytes ≤ 140737488355328) (hbase : base ≤ w.heap.size)
    (h : ∀ v' w', w'.ownsRow base e size v' (n + m) (xs ++ news) → w.grownBy w' v.ownBlock → (v'.ownBlock = v.ownBlock ∨ v'.ownBlock = some w.heap.size) → wpList P ops Q rest (a.put o.dst v') w') : wpList P ops Q (o :: rest) a w := by
  obtain ⟨v', w', hr, h2, h3, _⟩ := run_append_sl T o.type w base hown hsl h1 h63 hbytes hbase
  refine run hg v' w' ?_ (h v' w' h2 h3 (append_where T o.type w base hown hsl h1 h63 hbytes hr))
  simp [execOp, ho, resolve, hs, hx, invoke, builtin, hr]
end
theorem own_keep {w w' : World} {b : Nat} {e : TypeId} {sz : Nat} {v : Value} {n : Nat} {xs : List Value} (h : w.ownsRow b e sz v n xs) (hb : Below w.heap.size w w') : w'.ownsRow b e sz v n xs := by
  refine ⟨h.1, ?_⟩
  rcases h.2 with h2 | ⟨g, cap, cur, hv, hg, hh, r⟩
  · exact .inl h2
  · exact .inr ⟨g, cap, cur, hv, hg, by rw [hb.block g (Array.getElem?_eq_some_iff.1 hh).1]; exact hh, r⟩
theorem own_mono {w : World} {b b' : Nat} {e : TypeId} {sz : Nat} {v : Value} {n : Nat} {xs : List Value} (h : w.ownsRow b e sz v n xs) (hb : b' ≤ b) : w.ownsRow b' e sz v n xs := by
  refine ⟨h.1, ?_⟩
  rcases h.2 with h2 | ⟨g, cap, cur, hv, hg, r⟩
  · exact .inl h2
  · exact .inr ⟨g, cap, cur, hv, Nat.le_trans hb hg, r⟩
theorem elem_apart {w : World} {b b' : Nat} {e e' : TypeId} {s s' : Nat} {v v' : Value} {n n' : Nat} {xs xs' : List Value} (h : w.ownsRow b e s v n xs) (h' : w.ownsRow b' e' s' v' n' xs') (hne : e ≠ e') : v.ownBlock = none ∨ v.ownBlock ≠ v'.ownBlock := by
  rcases h.2 with ⟨rfl, _⟩ | ⟨g, cap, cur, rfl, _, hg, _⟩
  · exact .inl rfl
  · right
    intro he
    rcases h'.2 with ⟨rfl, _⟩ | ⟨g', cap', cur', rfl, _, hg', _⟩
    · cases he
    · simp only [Value.ownBlock, Option.some.injEq] at he
      subst he
      rw [hg] at hg'
      cases hg'
      exact hne rfl
/-- what reads outside the row that an append may have written reads still -/
theorem SlR.grown {w w' : World} {v : Value} {sz n : Nat} {cs : List Value} {row : Option Nat} (h : SlR w v sz n cs) (hg : w.grownBy w' row) (hne : ∀ k, row = some k → v.ownBlock ≠ some k) : SlR w' v sz n cs := by
  refine ⟨h.1, ?_⟩
  rcases h.2 with h2 | ⟨x, cap, rfl, h3, h4, h5⟩
  · exact .inl h2
  · refine .inr ⟨x, cap, rfl, h3, h4, fun i u hu => ?_⟩
    have hc := h5 i u hu
    have hblk : (x.add i).block = x.block := by unfold Addr.add; split <;> rfl
    refine hg.cell hc ?_
    rw [hblk]
    intro e
    exact hne x.block e.symm rfl
section
variable {P : Program} {ops : Array Oper} {rest : List Oper} {o : Oper} {l : List Value} {ds : List Deferred} {w : World} {Q : Act → Prop} {d : Nat}
theorem stBin {op : BinOp} {t t' : TypeId} {x y : Operand} (ho : o.op = .binOp op t x y t') (hw : Region.wanted o (yielded ops l.toArray) = true) (hd : o.dst = some d) {vx vy v : Value} (hx : ev l x = vx) (hy : ev l y = vy)
    (hg : (eqGuard op t x y vx vy).run P w = .ok () w) (hr : (binOp op t vx vy).run P w = .ok v w) (h : wpStill P ops w Q rest ⟨(l.set d v).toArray, ds⟩) : wpStill P ops w Q (o :: rest) ⟨l.toArray, ds⟩ :=
  stVal hw hd v (by simp only [execOp, ho, hx, hy, Sem.run_bind, hg, hr, Result.andThen_ok, Sem.run_pure]) h
end
theorem run_quo {P : Program} (t : TypeId) (m n : Nat) (hm : m < 9223372036854775808) (hn : 0 < n) (w : World) : (binOp .quo t (.int .i64 (m : Int)) (.int .i64 (n : Int))).run P w = .ok (.int .i64 ((m / n : Nat) : Int)) w := by
  have h0 : ¬ (n : Int) = 0 := by omega
  have h1 : m / n ≤ m := Nat.div_le_self _ _
  have e : IntKind.i64.wrap ((m : Int).tdiv n) = ((m / n : Nat) : Int) := by
    rw [← Int.ofNat_tdiv]
    generalize m / n = q at *
    rw [IntKind.wrap_i64]; omega
  show (if (n : Int) = 0 then _ else _ : Sem Value).run P w = _
  rw [if_neg h0]
  show Result.ok (Value.int .i64 (IntKind.i64.wrap ((m : Int).tdiv n))) w = _
  rw [e]
theorem run_rem {P : Program} (t : TypeId) (m n : Nat) (hn : 0 < n) (w : World) : (binOp .rem t (.int .i64 (m : Int)) (.int .i64 (n : Int))).run P w = .ok (.int .i64 ((m % n : Nat) : Int)) w := by
  have h0 : ¬ (n : Int) = 0 := by omega
  have e : (m : Int).tmod n = ((m % n : Nat) : Int) := by rw [← Int.ofNat_tmod]
  show (if (n : Int) = 0 then _ else _ : Sem Value).run P w = _
  rw [if_neg h0]
  show Result.ok (Value.int .i64 ((m : Int).tmod n)) w = _
  rw [e]
theorem run_shr_u8 {P : Program} (t : TypeId) (m n : Nat) (hn : n < 8) (w : World) : (binOp .shr t (.int .u8 (m : Int)) (.int .i64 (n : Int))).run P w = .ok (.int .u8 ((m / 2 ^ n : Nat) : Int)) w := by
  have h0 : ¬ (n : Int) < 0 := by omega
  have h1 : min (n : Int).toNat 8 = n := by omega
  have e : Int.fdiv (m : Int) (2 ^ n) = ((m / 2 ^ n : Nat) : Int) := by
    have h2 : (0 : Int) ≤ 2 ^ n := Int.pow_nonneg (by decide)
    rw [Int.fdiv_eq_ediv_of_nonneg _ h2, Int.natCast_ediv]; simp
  have hb : min (n : Int).toNat IntKind.u8.bits = n := h1
  simp only [binOp, Op.shift, h0, if_false, hb, Sem.run_pure, e]
theorem run_xor_u8 {P : Program} (t : TypeId) (m n r : Int) (h : bits .xor .u8 m n = r) (w : World) : (binOp .xor t (.int .u8 m) (.int .u8 n)).run P w = .ok (.int .u8 r) w := by
  subst h; rfl
end Agg
end
section
/-
  WHAT IS KEPT OVER CALLS: small laws, over any program.
-/
namespace Agg
open Go Go.RowKit

/-- the world at a call gets a name -/
theorem calls_at {P : Program} {f : FuncId} {args : Array Value} {w : World} {Q : Ending → World → Prop} (h : ∀ w' : World, Hid (w' = w) → Calls P f args w' Q) : Calls P f args w Q := h w rfl
/-- .. at a code -/
theorem wp_at {P : Program} {c : Code} {a : Act} {w : World} {Q : Exit → Act → World → Prop} (h : ∀ w' : World, Hid (w' = w) → c.wp P Q a w') : c.wp P Q a w := h w rfl
/-- .. all but the block that was laid last -/
theorem calls_at2 {P : Program} {f : FuncId} {args : Array Value} {w : World} {o : Obj} {Q : Ending → World → Prop} (h : ∀ w' : World, Hid (w' = w) → Calls P f args (w'.alloc o) Q) : Calls P f args (w.alloc o) Q := h w rfl
theorem bel_alloc {w w' : World} (h : Below w.heap.size w w') (o : Obj) : Below w.heap.size w (w'.alloc o) := h.alloc h.size o
theorem bel_drew {w w' : World} (h : Below w.heap.size w w') : Below w.heap.size w w'.drew := ⟨h.os, h.tape, h.output, h.size, h.block⟩
theorem bel_drewN {w w' : World} (h : Below w.heap.size w w') (n : Nat) : Below w.heap.size w (w'.drewN n) := ⟨h.os, h.tape, h.output, h.size, h.block⟩
theorem bel_set {w w' : World} (h : Below w.heap.size w w') {p : Addr} (hp : w.heap.size ≤ p.block) (v : Value) : Below w.heap.size w (w'.setCell p v) := h.setCell hp v

/-- a block that is known whole -/
def Blk (w : World) (g : Nat) (t : TypeId) (cs : List Value) : Prop := w.heap[g]? = some (.cells cs.toArray t (0, 0))
theorem Blk.lt {w : World} {g : Nat} {t : TypeId} {cs : List Value} (h : Blk w g t cs) : g < w.heap.size := (Array.getElem?_eq_some_iff.1 h).1
theorem Blk.keep {w w' : World} {g : Nat} {t : TypeId} {cs : List Value} (h : Blk w g t cs) (hb : Below w.heap.size w w') : Blk w' g t cs := (hb.block g h.lt).trans h
theorem Blk.new (w : World) (t : TypeId) (cs : Array Value) : Blk (w.alloc (.cells cs t)) w.heap.size t cs.toList := by
  have := heap_alloc_new w (.cells cs t); simpa [Blk] using this
theorem Blk.cell {w : World} {g : Nat} {t : TypeId} {cs : List Value} (h : Blk w g t cs) (i : Nat) : w.cell? ⟨g, i, none⟩ = cs[i]? := by
  rw [cell_of_row w g i cs.toArray t (0, 0) h]; simp
theorem Blk.frozen {w : World} {g : Nat} {t : TypeId} {cs : List Value} (h : Blk w g t cs) (i : Nat) : w.frozen? ⟨g, i, none⟩ = false := by
  have h' : w.heap[g]? = some (.cells cs.toArray t (0, 0)) := h
  simp [World.frozen?, h']
theorem Blk.set {w : World} {g : Nat} {t : TypeId} {cs : List Value} (h : Blk w g t cs) (i : Nat) (u : Value) : Blk (w.setCell ⟨g, i, none⟩ u) g t (cs.set i u) := by
  have h' : w.heap[g]? = some (.cells cs.toArray t (0, 0)) := h
  simp [Blk, World.setCell, Array.getElem?_modify, h']
end Agg
open Go Agg Go.RowKit in
theorem Go.World.ownsRow.keep {w w' : World} {b : Nat} {e : TypeId} {sz : Nat} {v : Value} {n : Nat} {xs : List Value} (h : w.ownsRow b e sz v n xs) (hb : Below w.heap.size w w') : w'.ownsRow b e sz v n xs := own_keep h hb
namespace Agg
open Go Go.RowKit
theorem sl_newAt' (w : World) (cs : Array Value) (e : TypeId) (n sz : Nat) (h : cs.size = n * sz) (hn : n ≤ maxLen) (g : Nat) (hg : g = w.heap.size) : SlR (w.alloc (.cells cs e)) (.slice (some ⟨g, 0, none⟩) n n) sz n cs.toList := by
  subst hg
  refine ⟨by simpa using h, .inr ⟨_, n, rfl, Nat.le_refl _, hn, fun i u hu => ?_⟩⟩
  rw [add_none, Nat.zero_add, (Blk.new w e cs).cell]; exact hu
/-- a block that was laid last, as a slice -/
theorem sl_new (w : World) (cs : Array Value) (e : TypeId) (n sz : Nat) (h : cs.size = n * sz) (hn : n ≤ maxLen) : SlR (w.alloc (.cells cs e)) (.slice (some ⟨w.heap.size, 0, none⟩) n n) sz n cs.toList := by
  refine ⟨by simpa using h, .inr ⟨_, n, rfl, Nat.le_refl _, hn, fun i u hu => ?_⟩⟩
  rw [add_none, Nat.zero_add, (Blk.new w e cs).cell]; exact hu
theorem Blk.newAt (w : World) (t : TypeId) (cs : Array Value) (g : Nat) (hg : g = w.heap.size) : Blk (w.alloc (.cells cs t)) g t cs.toList := by subst hg; exact Blk.new w t cs
theorem Blk.al {w : World} {g : Nat} {t : TypeId} {cs : List Value} (h : Blk w g t cs) (o : Obj) : Blk (w.alloc o) g t cs := h.keep ((Below.refl _ _).alloc (Nat.le_refl _) _)
theorem Blk.far {w : World} {g : Nat} {t : TypeId} {cs : List Value} (h : Blk w g t cs) {p : Addr} (hp : g ≠ p.block) (u : Value) : Blk (w.setCell p u) g t cs := (Below.heap_setCell w p u g hp).trans h
theorem Blk.set2 {w : World} {g : Nat} {t : TypeId} {a b : Value} (h : Blk w g t [a, b]) (u v : Value) : Blk ((w.setCell ⟨g, 0, none⟩ u).setCell ⟨g, 1, none⟩ v) g t [u, v] := (h.set 0 u).set 1 v
theorem Blk.setF {w : World} {g : Nat} {t : TypeId} {cs : List Value} (h : Blk w g t cs) (i : Nat) (u : Value) (g' : Nat) (hg : g = g') : Blk (w.setCell ⟨g', i, none⟩ u) g t (cs.set i u) := by subst hg; exact h.set i u
end Agg
end
section
/-
  COPY AND SLICE EXPRESSIONS, elements of any size, over any program.
-/
namespace Agg
open Go Go.RowKit

theorem min_mul (a b c : Nat) : Nat.min a b * c ≤ a * c := Nat.mul_le_mul_right _ (Nat.min_le_left _ _)
/-- what a row holds behind a copy -/
def spliced (xs : List Value) (off : Nat) (cs : List Value) : List Value := xs.take off ++ cs ++ xs.drop (off + cs.length)
theorem spliced_mid (a b c d : List Value) (n : Nat) (hn : a.length = n) (h : b.length = d.length) : spliced (a ++ b ++ c) n d = a ++ d ++ c := by
  have h1 : (a ++ b ++ c).take n = a := by rw [List.append_assoc, List.take_left' hn]
  have h2 : (a ++ b ++ c).drop (n + d.length) = c := List.drop_left' (by simp [hn, h])
  rw [spliced, h1, h2]
theorem run_copy_own {P : Program} {t t' e : TypeId} {size bytes : Nat} {z : Value} (T : TI P t e size bytes z) (ty : TypeId) (w : World) {base g n cap : Nat} {xs : List Value} (hown : w.ownsRow base e size (.slice (some ⟨g, 0, none⟩) n cap) n xs)
    (off dl dc : Nat) {sv : Value} {m : Nat} {cs : List Value} (hsl : SlR w sv size m cs) (h1 : ∀ u ∈ cs, u.oneCell' = true) (k : Nat) (hk : k = Nat.min m dl) (hoff : off + k ≤ n) :
    ∃ w', (Builtin.copy_ #[t, t'] ty #[.slice (some ⟨g, off * size, none⟩) dl dc, sv]).run P w = .ok (goInt k) w' ∧ w'.ownsRow base e size (.slice (some ⟨g, 0, none⟩) n cap) n (spliced xs (off * size) (cs.take (k * size))) ∧ w.grownBy w' (some g) := by
  obtain ⟨i, hi, hz, hs, hb⟩ := T.info
  rcases hown.2 with ⟨h, _⟩ | ⟨g', cap', cur, hv, hbg, hg, hn, hm, hcs, ht⟩
  · cases h
  simp only [Value.slice.injEq, Option.some.injEq, Addr.mk.injEq, and_true, true_and] at hv
  obtain ⟨rfl, rfl⟩ := hv
  have hkl : (cs.take (k * size)).length = k * size := by
    rw [List.length_take, hsl.1, hk]
    exact Nat.min_eq_left (min_mul _ _ _)
  have hxl := hown.1
  have hfit : off * size + k * size ≤ n * size := by rw [← Nat.add_mul]; exact Nat.mul_le_mul_right _ hoff
  have hncap : n * size ≤ cap * size := Nat.mul_le_mul_right _ hn
  have hst := run_storeCells_at P g (off * size) e (cs.take (k * size)) 0 cur w hg (by rw [hkl, hcs]; omega) (fun u hu => h1 u (List.mem_of_mem_take hu))
  simp only [Nat.add_zero, hkl] at hst
  have hrow : (w.setRow g (cur.toList.take (off * size) ++ cs.take (k * size) ++ cur.toList.drop (off * size + k * size)).toArray).ownsRow base e size (.slice (some ⟨g, 0, none⟩) n cap) n (spliced xs (off * size) (cs.take (k * size))) := by
    refine ⟨?_, .inr ⟨g, cap, _, rfl, hbg, setRow_heap w g cur _ e (0, 0) hg, hn, hm, ?_, ?_⟩⟩
    · simp only [spliced, List.length_append, List.length_drop, hkl, List.length_take, hxl]; omega
    · simp only [List.size_toArray, List.length_append, List.length_drop, hkl, List.length_take, Array.length_toList, hcs]; omega
    · simp only [spliced, ← ht, hkl]
      apply List.ext_getElem?
      intro j
      by_cases h1 : j < off * size
      · rw [List.getElem?_take_of_lt (by omega), List.append_assoc, List.append_assoc, List.getElem?_append_left (by rw [List.length_take, Array.length_toList, hcs]; omega), List.getElem?_append_left (by rw [List.length_take, List.length_take, Array.length_toList, hcs]; omega), List.getElem?_take_of_lt h1, List.getElem?_take_of_lt h1, List.getElem?_take_of_lt (by omega)]
      · have l1 : (cur.toList.take (off * size)).length = off * size := by rw [List.length_take, Array.length_toList, hcs]; omega
        have l2 : ((cur.toList.take (n * size)).take (off * size)).length = off * size := by rw [List.length_take, List.length_take, Array.length_toList, hcs]; omega
        by_cases h2 : j < n * size
        · have e1 : ∀ (B C : List Value), (cur.toList.take (off * size) ++ (B ++ C))[j]? = (B ++ C)[j - off * size]? := fun B C => by rw [List.getElem?_append_right (by omega), l1]
          have e2 : ∀ (B C : List Value), ((cur.toList.take (n * size)).take (off * size) ++ (B ++ C))[j]? = (B ++ C)[j - off * size]? := fun B C => by rw [List.getElem?_append_right (by omega), l2]
          rw [List.getElem?_take_of_lt h2, List.append_assoc, List.append_assoc, e1, e2]
          by_cases h3 : j - off * size < k * size
          · rw [List.getElem?_append_left (by omega), List.getElem?_append_left (by omega)]
          · rw [List.getElem?_append_right (by omega), List.getElem?_append_right (by omega), hkl, List.getElem?_drop, List.getElem?_drop, List.getElem?_take_of_lt (by omega)]
        · rw [List.getElem?_take_eq_none (by omega), List.getElem?_eq_none]
          simp only [List.length_append, List.length_drop, hkl, l2, List.length_take, Array.length_toList, hcs]; omega
  refine ⟨_, ?_, hrow, ⟨rfl, rfl, rfl, by simp, fun j _ hj => setRow_other w g j _ (fun e => hj (by rw [e]))⟩⟩
  rcases hsl.2 with ⟨rfl, rfl⟩ | ⟨x, cap2, rfl, h3, h4, h5⟩
  · have : k = 0 := by rw [hk]; exact Nat.min_eq_left (Nat.zero_le _)
    subst this
    simp only [Nat.zero_mul, List.take_zero, Nat.add_zero, List.append_nil, List.take_append_drop, Array.toArray_toList]
    rw [setRow_self w g cur e (0, 0) hg]
    have : (0 : Nat).min dl = 0 := Nat.min_eq_left (Nat.zero_le _)
    simp [Builtin.copy_, run_underlying T.ht, Builtin.lenOf, Builtin.firstCells, Go.sizeOf, typeInfo, hi, storeCells, this]
  · have hl := run_loadCells_list (P := P) w x (cs.take (k * size)) (fun j u hu => h5 j u (by
      rw [List.getElem?_take] at hu
      split at hu
      · exact hu
      · cases hu))
    rw [hkl, hk] at hl
    rw [hk] at hst
    simp [Builtin.copy_, run_underlying T.ht, Builtin.lenOf, Builtin.firstCells, Go.sizeOf, typeInfo, hi, hl, hs, hst, hk]

section
variable {P : Program} {ops : Array Oper} {rest : List Oper} {o : Oper} {a : Act} {w : World} {Q : Exit → Act → World → Prop}
theorem copy {t t' e : TypeId} {size bytes : Nat} {z : Value} (T : TI P t e size bytes z) (d s : Operand) (hgd : o.guard = none) (ho : o.op = .call { callee := .builtin .copy, args := #[d, s], argTypes := #[t, t'] })
    {base g n cap : Nat} {xs : List Value} (hown : w.ownsRow base e size (.slice (some ⟨g, 0, none⟩) n cap) n xs) (off dl dc : Nat) {fo : Nat} (hd : a.eval d = .slice (some ⟨g, fo, none⟩) dl dc) (hfo : fo = off * size) {sv : Value} (hs : a.eval s = sv) {m : Nat} {cs : List Value}
    (hsl : SlR w sv size m cs) (h1 : ∀ u ∈ cs, u.oneCell' = true) (k : Nat) (hk : k = Nat.min m dl) (hoff : off + k ≤ n)
    (h : ∀ w', Hid (w'.ownsRow base e size (.slice (some ⟨g, 0, none⟩) n cap) n (spliced xs (off * size) (cs.take (k * size)))) → w.grownBy w' (some g) → wpList P ops Q rest (a.put o.dst (.int .i64 k)) w') : wpList P ops Q (o :: rest) a w := by
  subst hfo
  obtain ⟨w', hr, h2, h3⟩ := run_copy_own (t' := t') T o.type w hown off dl dc hsl h1 k hk hoff
  refine run hgd (.int .i64 k) w' ?_ (h w' h2 h3)
  simp [execOp, ho, resolve, hd, hs, invoke, builtin, hr, goInt]
end

theorem own_cap {w : World} {base : Nat} {e : TypeId} {size g n cap : Nat} {xs : List Value} (h : w.ownsRow base e size (.slice (some ⟨g, 0, none⟩) n cap) n xs) : n ≤ cap ∧ cap ≤ maxLen ∧ base ≤ g ∧ g < w.heap.size := by
  rcases h.2 with ⟨h, _⟩ | ⟨g', cap', cur, hv, hbg, hg, hn, hm, hcs, ht⟩
  · cases h
  · simp only [Value.slice.injEq, Option.some.injEq, Addr.mk.injEq, and_true, true_and] at hv
    obtain ⟨rfl, rfl⟩ := hv
    exact ⟨hn, hm, hbg, (Array.getElem?_eq_some_iff.1 hg).1⟩

/-- s[k:] where something is left -/
theorem run_slice_from {P : Program} {t e : TypeId} {size bytes : Nat} {z : Value} (T : TI P t e size bytes z) (b f len cap k : Nat) (hk : k ≤ len) (hlt : k < cap) (w : World) :
    (Instr.sliceAt t (.slice (some ⟨b, f, none⟩) len cap) (some (.int .i64 (k : Int))) none none).run P w = .ok (.slice (some ⟨b, f + k * size, none⟩) (len - k) (cap - k)) w := by
  obtain ⟨i, hi, hz, hs, hb⟩ := T.info
  have h1 : ¬ cap = k := by omega
  simp [Instr.sliceAt, Instr.slice, Instr.sliceBounds, Instr.sliceBound, run_underlying T.ht, asIntOf, hk, Go.sizeOf, typeInfo, hi, hs, h1, add_none]
/-- s[k:m] -/
theorem run_slice_fromto {P : Program} {t e : TypeId} {size bytes : Nat} {z : Value} (T : TI P t e size bytes z) (b f len cap k m : Nat) (hk : k ≤ m) (hc : m ≤ cap) (hlt : k < cap) (w : World) :
    (Instr.sliceAt t (.slice (some ⟨b, f, none⟩) len cap) (some (.int .i64 (k : Int))) (some (.int .i64 (m : Int))) none).run P w = .ok (.slice (some ⟨b, f + k * size, none⟩) (m - k) (cap - k)) w := by
  obtain ⟨i, hi, hz, hs, hb⟩ := T.info
  have h1 : ¬ cap = k := by omega
  simp [Instr.sliceAt, Instr.slice, Instr.sliceBounds, Instr.sliceBound, run_underlying T.ht, asIntOf, hk, hc, Go.sizeOf, typeInfo, hi, hs, h1, add_none]
/-- s[:m] -/
theorem run_slice_upto {P : Program} {t e : TypeId} {size bytes : Nat} {z : Value} (T : TI P t e size bytes z) (x : Option Addr) (len cap m : Nat) (hc : m ≤ cap) (w : World) :
    (Instr.sliceAt t (.slice x len cap) none (some (.int .i64 (m : Int))) none).run P w = .ok (.slice x m cap) w := by
  obtain ⟨i, hi, hz, hs, hb⟩ := T.info
  cases x with
  | none => simp [Instr.sliceAt, Instr.slice, Instr.sliceBounds, Instr.sliceBound, run_underlying T.ht, asIntOf, hc, Go.sizeOf, typeInfo, hi]
  | some a => simp [Instr.sliceAt, Instr.slice, Instr.sliceBounds, Instr.sliceBound, run_underlying T.ht, asIntOf, hc, Go.sizeOf, typeInfo, hi, Addr.add]
end Agg
end
