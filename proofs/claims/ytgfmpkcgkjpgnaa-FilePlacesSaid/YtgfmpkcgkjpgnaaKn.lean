/-
  APPEND, once more: where the row lies behind it. Over any program.
-/
import Derived.Lib.Hide
import Derived.Deep.Draws
import Derived.Test.YtgfmpkcgkjpgnaaAgg
section
namespace Agg
open Go Go.RowKit

theorem append_where {P : Program} {t e : TypeId} {size bytes : Nat} {z : Value} (T : TI P t e size bytes z) (ty : TypeId) (w : World) (base : Nat) {v : Value} {n : Nat} {xs : List Value} (hown : w.ownsRow base e size v n xs)
    {xv : Value} {m : Nat} {news : List Value} (hsl : SlR w xv size m news) (h1 : ∀ u ∈ news, u.oneCell' = true) (h63 : n + m ≤ maxLen) (hbytes : (n + m) * bytes ≤ 140737488355328) {v' : Value} {w' : World}
    (hr : (Builtin.append_ #[t, t] ty #[v, xv]).run P w = .ok v' w') : v'.ownBlock = v.ownBlock ∨ v'.ownBlock = some w.heap.size := by
  obtain ⟨i, hi, hz, hs, hb⟩ := T.info
  have hm' : n + m ≤ 9223372036854775807 := by unfold maxLen at h63; omega
  rcases hsl.2 with ⟨rfl, rfl⟩ | ⟨x, cap, rfl, _, _, h5⟩
  · rw [run_append_owned_none w base t ty e i size T.ht hi v n xs hown] at hr
    cases hr
    exact .inl rfl
  · rcases hown.2 with ⟨rfl, rfl⟩ | ⟨g, cap', cur, rfl, hbg, hg, hnc, hcm, hcs, htake⟩
    · rcases Nat.eq_zero_or_pos m with hm | hm
      · subst hm
        have hn : news = [] := List.eq_nil_of_length_eq_zero (by rw [hsl.1]; simp)
        obtain ⟨v2, w2, hr2, _, _, hnil⟩ := run_append_sl T ty w w.heap.size (World.ownsRow_nil w _ e size) hsl h1 (by simp) (by simp) (Nat.le_refl _)
        rw [hr2] at hr
        cases hr
        exact .inl (by rw [hnil.2 ⟨rfl, rfl⟩])
      · have hrun := run_append_nil (P := P) w t ty e i z T.ht hi hz x m cap news (by rw [hs]; exact hsl.1) h5 hm (by omega) (by rw [hb]; rw [Nat.zero_add] at hbytes; omega)
        rw [hrun] at hr
        cases hr
        exact .inr rfl
    · by_cases hfit : n + m ≤ cap'
      · obtain ⟨w2, hr2, _, _⟩ := run_append_fits (P := P) w base t ty e i size T.ht hi hs g n cap' xs hown x m cap news hsl.1 h5 h1 hfit
        rw [hr2] at hr
        cases hr
        exact .inl rfl
      · have hrun := run_append_grow (P := P) w t ty e i z T.ht hi hz ⟨g, 0, none⟩ n cap' xs (by rw [hs]; exact hown.1) (World.ownsRow.cells (g := g) hown rfl) x m cap news (by rw [hs]; exact hsl.1) h5 (by omega) (by omega)
          (by rw [hb]; exact growslice_fits (by omega) hbytes)
        rw [hrun] at hr
        cases hr
        exact .inr rfl

section
variable {P : Program} {ops : Array Oper} {rest : List Oper} {o : Oper} {a : Act} {w : World} {Q : Exit → Act → World → Prop}
theorem append2 {t e : TypeId} {size bytes : Nat} {z : Value} (T : TI P t e size bytes z) (s x : Operand) (hg : o.guard = none) (ho : o.op = .call { callee := .builtin .append, args := #[s, x], argTypes := #[t, t] })
    (base : Nat) {v : Value} {n : Nat} {xs : List Value} (hs : a.eval s = v) (hown : w.ownsRow base e size v n xs) {xv : Value} {m : Nat} {news : List Value} (hx : a.eval x = xv) (hsl : SlR w xv size m news)
    (h1 : ∀ u ∈ news, u.oneCell' = true) (h63 : n + m ≤ maxLen) (hbytes : (n + m) * bytes ≤ 140737488355328) (hbase : base ≤ w.heap.size)
    (h : ∀ v' w', w'.ownsRow base e size v' (n + m) (xs ++ news) → w.grownBy w' v.ownBlock → (v'.ownBlock = v.ownBlock ∨ v'.ownBlock = some w.heap.size) → wpList P ops Q rest (a.put o.dst v') w') : wpList P ops Q (o :: rest) a w := by
  obtain ⟨v', w', hr, h2, h3, _⟩ := run_append_sl T o.type w base hown hsl h1 h63 hbytes hbase
  refine run hg v' w' ?_ (h v' w' h2 h3 (append_where T o.type w base hown hsl h1 h63 hbytes hr))
  simp [execOp, ho, resolve, hs, hx, invoke, builtin, hr]
end
theorem own_keep {w w' : World} {b : Nat} {e : TypeId} {sz : Nat} {v : Value} {n : Nat} {xs : List Value} (h : w.ownsRow b e sz v n xs) (hb : Below w.heap.size w w') : w'.ownsRow b e sz v n xs := by
  refine ⟨h.1, ?_⟩
  rcases h.2 with h2 | ⟨g, cap, cur, hv, hg, hh, r⟩
  · exact .inl h2
  · exact .inr ⟨g, cap, cur, hv, hg, by rw [hb.block g (Array.getElem?_eq_some_iff.1 hh).1]; exact hh, r⟩
theorem own_mono {w : World} {b b' : Nat} {e : TypeId} {sz : Nat} {v : Value} {n : Nat} {xs : List Value} (h : w.ownsRow b e sz v n xs) (hb : b' ≤ b) : w.ownsRow b' e sz v n xs := by
  refine ⟨h.1, ?_⟩
  rcases h.2 with h2 | ⟨g, cap, cur, hv, hg, r⟩
  · exact .inl h2
  · exact .inr ⟨g, cap, cur, hv, Nat.le_trans hb hg, r⟩
theorem elem_apart {w : World} {b b' : Nat} {e e' : TypeId} {s s' : Nat} {v v' : Value} {n n' : Nat} {xs xs' : List Value} (h : w.ownsRow b e s v n xs) (h' : w.ownsRow b' e' s' v' n' xs') (hne : e ≠ e') : v.ownBlock = none ∨ v.ownBlock ≠ v'.ownBlock := by
  rcases h.2 with ⟨rfl, _⟩ | ⟨g, cap, cur, rfl, _, hg, _⟩
  · exact .inl rfl
  · right
    intro he
    rcases h'.2 with ⟨rfl, _⟩ | ⟨g', cap', cur', rfl, _, hg', _⟩
    · cases he
    · simp only [Value.ownBlock, Option.some.injEq] at he
      subst he
      rw [hg] at hg'
      cases hg'
      exact hne rfl
/-- what reads outside the row that an append may have written reads still -/
theorem SlR.grown {w w' : World} {v : Value} {sz n : Nat} {cs : List Value} {row : Option Nat} (h : SlR w v sz n cs) (hg : w.grownBy w' row) (hne : ∀ k, row = some k → v.ownBlock ≠ some k) : SlR w' v sz n cs := by
  refine ⟨h.1, ?_⟩
  rcases h.2 with h2 | ⟨x, cap, rfl, h3, h4, h5⟩
  · exact .inl h2
  · refine .inr ⟨x, cap, rfl, h3, h4, fun i u hu => ?_⟩
    have hc := h5 i u hu
    have hblk : (x.add i).block = x.block := by unfold Addr.add; split <;> rfl
    refine hg.cell hc ?_
    rw [hblk]
    intro e
    exact hne x.block e.symm rfl
section
variable {P : Program} {ops : Array Oper} {rest : List Oper} {o : Oper} {l : List Value} {ds : List Deferred} {w : World} {Q : Act → Prop} {d : Nat}
theorem stBin {op : BinOp} {t t' : TypeId} {x y : Operand} (ho : o.op = .binOp op t x y t') (hw : Region.wanted o (yielded ops l.toArray) = true) (hd : o.dst = some d) {vx vy v : Value} (hx : ev l x = vx) (hy : ev l y = vy)
    (hg : (eqGuard op t x y vx vy).run P w = .ok () w) (hr : (binOp op t vx vy).run P w = .ok v w) (h : wpStill P ops w Q rest ⟨(l.set d v).toArray, ds⟩) : wpStill P ops w Q (o :: rest) ⟨l.toArray, ds⟩ :=
  stVal hw hd v (by simp only [execOp, ho, hx, hy, Sem.run_bind, hg, hr, Result.andThen_ok, Sem.run_pure]) h
end
theorem run_quo {P : Program} (t : TypeId) (m n : Nat) (hm : m < 9223372036854775808) (hn : 0 < n) (w : World) : (binOp .quo t (.int .i64 (m : Int)) (.int .i64 (n : Int))).run P w = .ok (.int .i64 ((m / n : Nat) : Int)) w := by
  have h0 : ¬ (n : Int) = 0 := by omega
  have h1 : m / n ≤ m := Nat.div_le_self _ _
  have e : IntKind.i64.wrap ((m : Int).tdiv n) = ((m / n : Nat) : Int) := by
    rw [← Int.ofNat_tdiv]
    generalize m / n = q at *
    rw [IntKind.wrap_i64]; omega
  show (if (n : Int) = 0 then _ else _ : Sem Value).run P w = _
  rw [if_neg h0]
  show Result.ok (Value.int .i64 (IntKind.i64.wrap ((m : Int).tdiv n))) w = _
  rw [e]
theorem run_rem {P : Program} (t : TypeId) (m n : Nat) (hn : 0 < n) (w : World) : (binOp .rem t (.int .i64 (m : Int)) (.int .i64 (n : Int))).run P w = .ok (.int .i64 ((m % n : Nat) : Int)) w := by
  have h0 : ¬ (n : Int) = 0 := by omega
  have e : (m : Int).tmod n = ((m % n : Nat) : Int) := by rw [← Int.ofNat_tmod]
  show (if (n : Int) = 0 then _ else _ : Sem Value).run P w = _
  rw [if_neg h0]
  show Result.ok (Value.int .i64 ((m : Int).tmod n)) w = _
  rw [e]
theorem run_shr_u8 {P : Program} (t : TypeId) (m n : Nat) (hn : n < 8) (w : World) : (binOp .shr t (.int .u8 (m : Int)) (.int .i64 (n : Int))).run P w = .ok (.int .u8 ((m / 2 ^ n : Nat) : Int)) w := by
  have h0 : ¬ (n : Int) < 0 := by omega
  have h1 : min (n : Int).toNat 8 = n := by omega
  have e : Int.fdiv (m : Int) (2 ^ n) = ((m / 2 ^ n : Nat) : Int) := by
    have h2 : (0 : Int) ≤ 2 ^ n := Int.pow_nonneg (by decide)
    rw [Int.fdiv_eq_ediv_of_nonneg _ h2, Int.natCast_ediv]; simp
  have hb : min (n : Int).toNat IntKind.u8.bits = n := h1
  simp only [binOp, Op.shift, h0, if_false, hb, Sem.run_pure, e]
theorem run_xor_u8 {P : Program} (t : TypeId) (m n r : Int) (h : bits .xor .u8 m n = r) (w : World) : (binOp .xor t (.int .u8 m) (.int .u8 n)).run P w = .ok (.int .u8 r) w := by
  subst h; rfl
end Agg
end
section
/-
  WHAT IS KEPT OVER CALLS: small laws, over any program.
-/
namespace Agg
open Go Go.RowKit

/-- the world at a call gets a name -/
theorem calls_at {P : Program} {f : FuncId} {args : Array Value} {w : World} {Q : Ending → World → Prop} (h : ∀ w' : World, Hid (w' = w) → Calls P f args w' Q) : Calls P f args w Q := h w rfl
/-- .. at a code -/
theorem wp_at {P : Program} {c : Code} {a : Act} {w : World} {Q : Exit → Act → World → Prop} (h : ∀ w' : World, Hid (w' = w) → c.wp P Q a w') : c.wp P Q a w := h w rfl
/-- .. all but the block that was laid last -/
theorem calls_at2 {P : Program} {f : FuncId} {args : Array Value} {w : World} {o : Obj} {Q : Ending → World → Prop} (h : ∀ w' : World, Hid (w' = w) → Calls P f args (w'.alloc o) Q) : Calls P f args (w.alloc o) Q := h w rfl
theorem bel_alloc {w w' : World} (h : Below w.heap.size w w') (o : Obj) : Below w.heap.size w (w'.alloc o) := h.alloc h.size o
theorem bel_drew {w w' : World} (h : Below w.heap.size w w') : Below w.heap.size w w'.drew := ⟨h.os, h.tape, h.output, h.size, h.block⟩
theorem bel_drewN {w w' : World} (h : Below w.heap.size w w') (n : Nat) : Below w.heap.size w (w'.drewN n) := ⟨h.os, h.tape, h.output, h.size, h.block⟩
theorem bel_set {w w' : World} (h : Below w.heap.size w w') {p : Addr} (hp : w.heap.size ≤ p.block) (v : Value) : Below w.heap.size w (w'.setCell p v) := h.setCell hp v

/-- a block that is known whole -/
def Blk (w : World) (g : Nat) (t : TypeId) (cs : List Value) : Prop := w.heap[g]? = some (.cells cs.toArray t (0, 0))
theorem Blk.lt {w : World} {g : Nat} {t : TypeId} {cs : List Value} (h : Blk w g t cs) : g < w.heap.size := (Array.getElem?_eq_some_iff.1 h).1
theorem Blk.keep {w w' : World} {g : Nat} {t : TypeId} {cs : List Value} (h : Blk w g t cs) (hb : Below w.heap.size w w') : Blk w' g t cs := (hb.block g h.lt).trans h
theorem Blk.new (w : World) (t : TypeId) (cs : Array Value) : Blk (w.alloc (.cells cs t)) w.heap.size t cs.toList := by
  have := heap_alloc_new w (.cells cs t); simpa [Blk] using this
theorem Blk.cell {w : World} {g : Nat} {t : TypeId} {cs : List Value} (h : Blk w g t cs) (i : Nat) : w.cell? ⟨g, i, none⟩ = cs[i]? := by
  rw [cell_of_row w g i cs.toArray t (0, 0) h]; simp
theorem Blk.frozen {w : World} {g : Nat} {t : TypeId} {cs : List Value} (h : Blk w g t cs) (i : Nat) : w.frozen? ⟨g, i, none⟩ = false := by
  have h' : w.heap[g]? = some (.cells cs.toArray t (0, 0)) := h
  simp [World.frozen?, h']
theorem Blk.set {w : World} {g : Nat} {t : TypeId} {cs : List Value} (h : Blk w g t cs) (i : Nat) (u : Value) : Blk (w.setCell ⟨g, i, none⟩ u) g t (cs.set i u) := by
  have h' : w.heap[g]? = some (.cells cs.toArray t (0, 0)) := h
  simp [Blk, World.setCell, Array.getElem?_modify, h']
end Agg
open Go Agg Go.RowKit in
theorem Go.World.ownsRow.keep {w w' : World} {b : Nat} {e : TypeId} {sz : Nat} {v : Value} {n : Nat} {xs : List Value} (h : w.ownsRow b e sz v n xs) (hb : Below w.heap.size w w') : w'.ownsRow b e sz v n xs := own_keep h hb
namespace Agg
open Go Go.RowKit
theorem sl_newAt' (w : World) (cs : Array Value) (e : TypeId) (n sz : Nat) (h : cs.size = n * sz) (hn : n ≤ maxLen) (g : Nat) (hg : g = w.heap.size) : SlR (w.alloc (.cells cs e)) (.slice (some ⟨g, 0, none⟩) n n) sz n cs.toList := by
  subst hg
  refine ⟨by simpa using h, .inr ⟨_, n, rfl, Nat.le_refl _, hn, fun i u hu => ?_⟩⟩
  rw [add_none, Nat.zero_add, (Blk.new w e cs).cell]; exact hu
/-- a block that was laid last, as a slice -/
theorem sl_new (w : World) (cs : Array Value) (e : TypeId) (n sz : Nat) (h : cs.size = n * sz) (hn : n ≤ maxLen) : SlR (w.alloc (.cells cs e)) (.slice (some ⟨w.heap.size, 0, none⟩) n n) sz n cs.toList := by
  refine ⟨by simpa using h, .inr ⟨_, n, rfl, Nat.le_refl _, hn, fun i u hu => ?_⟩⟩
  rw [add_none, Nat.zero_add, (Blk.new w e cs).cell]; exact hu
theorem Blk.newAt (w : World) (t : TypeId) (cs : Array Value) (g : Nat) (hg : g = w.heap.size) : Blk (w.alloc (.cells cs t)) g t cs.toList := by subst hg; exact Blk.new w t cs
theorem Blk.al {w : World} {g : Nat} {t : TypeId} {cs : List Value} (h : Blk w g t cs) (o : Obj) : Blk (w.alloc o) g t cs := h.keep ((Below.refl _ _).alloc (Nat.le_refl _) _)
theorem Blk.far {w : World} {g : Nat} {t : TypeId} {cs : List Value} (h : Blk w g t cs) {p : Addr} (hp : g ≠ p.block) (u : Value) : Blk (w.setCell p u) g t cs := (Below.heap_setCell w p u g hp).trans h
theorem Blk.set2 {w : World} {g : Nat} {t : TypeId} {a b : Value} (h : Blk w g t [a, b]) (u v : Value) : Blk ((w.setCell ⟨g, 0, none⟩ u).setCell ⟨g, 1, none⟩ v) g t [u, v] := (h.set 0 u).set 1 v
theorem Blk.setF {w : World} {g : Nat} {t : TypeId} {cs : List Value} (h : Blk w g t cs) (i : Nat) (u : Value) (g' : Nat) (hg : g = g') : Blk (w.setCell ⟨g', i, none⟩ u) g t (cs.set i u) := by subst hg; exact h.set i u
end Agg
end
