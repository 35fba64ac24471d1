/-
  WHAT IS KEPT OVER CALLS: small laws, over any program.
-/
import Derived.Test.YtjnnnnolikbjcaaAgg2
import Derived.Lib.Hide
import Derived.Deep.Draws
namespace Agg
open Go Go.RowKit

/-- the world at a call gets a name -/
theorem calls_at {P : Program} {f : FuncId} {args : Array Value} {w : World} {Q : Ending → World → Prop} (h : ∀ w' : World, Hid (w' = w) → Calls P f args w' Q) : Calls P f args w Q := h w rfl
/-- .. at a code -/
theorem wp_at {P : Program} {c : Code} {a : Act} {w : World} {Q : Exit → Act → World → Prop} (h : ∀ w' : World, Hid (w' = w) → c.wp P Q a w') : c.wp P Q a w := h w rfl
/-- .. all but the block that was laid last -/
theorem calls_at2 {P : Program} {f : FuncId} {args : Array Value} {w : World} {o : Obj} {Q : Ending → World → Prop} (h : ∀ w' : World, Hid (w' = w) → Calls P f args (w'.alloc o) Q) : Calls P f args (w.alloc o) Q := h w rfl
theorem bel_alloc {w w' : World} (h : Below w.heap.size w w') (o : Obj) : Below w.heap.size w (w'.alloc o) := h.alloc h.size o
theorem bel_drew {w w' : World} (h : Below w.heap.size w w') : Below w.heap.size w w'.drew := ⟨h.os, h.tape, h.output, h.size, h.block⟩
theorem bel_drewN {w w' : World} (h : Below w.heap.size w w') (n : Nat) : Below w.heap.size w (w'.drewN n) := ⟨h.os, h.tape, h.output, h.size, h.block⟩
theorem bel_set {w w' : World} (h : Below w.heap.size w w') {p : Addr} (hp : w.heap.size ≤ p.block) (v : Value) : Below w.heap.size w (w'.setCell p v) := h.setCell hp v

/-- a block that is known whole -/
def Blk (w : World) (g : Nat) (t : TypeId) (cs : List Value) : Prop := w.heap[g]? = some (.cells cs.toArray t (0, 0))
theorem Blk.lt {w : World} {g : Nat} {t : TypeId} {cs : List Value} (h : Blk w g t cs) : g < w.heap.size := (Array.getElem?_eq_some_iff.1 h).1
theorem Blk.keep {w w' : World} {g : Nat} {t : TypeId} {cs : List Value} (h : Blk w g t cs) (hb : Below w.heap.size w w') : Blk w' g t cs := (hb.block g h.lt).trans h
theorem Blk.new (w : World) (t : TypeId) (cs : Array Value) : Blk (w.alloc (.cells cs t)) w.heap.size t cs.toList := by
  have := heap_alloc_new w (.cells cs t); simpa [Blk] using this
theorem Blk.cell {w : World} {g : Nat} {t : TypeId} {cs : List Value} (h : Blk w g t cs) (i : Nat) : w.cell? ⟨g, i, none⟩ = cs[i]? := by
  rw [cell_of_row w g i cs.toArray t (0, 0) h]; simp
theorem Blk.frozen {w : World} {g : Nat} {t : TypeId} {cs : List Value} (h : Blk w g t cs) (i : Nat) : w.frozen? ⟨g, i, none⟩ = false := by
  have h' : w.heap[g]? = some (.cells cs.toArray t (0, 0)) := h
  simp [World.frozen?, h']
theorem Blk.set {w : World} {g : Nat} {t : TypeId} {cs : List Value} (h : Blk w g t cs) (i : Nat) (u : Value) : Blk (w.setCell ⟨g, i, none⟩ u) g t (cs.set i u) := by
  have h' : w.heap[g]? = some (.cells cs.toArray t (0, 0)) := h
  simp [Blk, World.setCell, Array.getElem?_modify, h']
end Agg
open Go Agg Go.RowKit in
theorem Go.World.ownsRow.keep {w w' : World} {b : Nat} {e : TypeId} {sz : Nat} {v : Value} {n : Nat} {xs : List Value} (h : w.ownsRow b e sz v n xs) (hb : Below w.heap.size w w') : w'.ownsRow b e sz v n xs := own_keep h hb
namespace Agg
open Go Go.RowKit
theorem sl_newAt' (w : World) (cs : Array Value) (e : TypeId) (n sz : Nat) (h : cs.size = n * sz) (hn : n ≤ maxLen) (g : Nat) (hg : g = w.heap.size) : SlR (w.alloc (.cells cs e)) (.slice (some ⟨g, 0, none⟩) n n) sz n cs.toList := by
  subst hg
  refine ⟨by simpa using h, .inr ⟨_, n, rfl, Nat.le_refl _, hn, fun i u hu => ?_⟩⟩
  rw [add_none, Nat.zero_add, (Blk.new w e cs).cell]; exact hu
/-- a block that was laid last, as a slice -/
theorem sl_new (w : World) (cs : Array Value) (e : TypeId) (n sz : Nat) (h : cs.size = n * sz) (hn : n ≤ maxLen) : SlR (w.alloc (.cells cs e)) (.slice (some ⟨w.heap.size, 0, none⟩) n n) sz n cs.toList := by
  refine ⟨by simpa using h, .inr ⟨_, n, rfl, Nat.le_refl _, hn, fun i u hu => ?_⟩⟩
  rw [add_none, Nat.zero_add, (Blk.new w e cs).cell]; exact hu
theorem Blk.newAt (w : World) (t : TypeId) (cs : Array Value) (g : Nat) (hg : g = w.heap.size) : Blk (w.alloc (.cells cs t)) g t cs.toList := by subst hg; exact Blk.new w t cs
theorem Blk.al {w : World} {g : Nat} {t : TypeId} {cs : List Value} (h : Blk w g t cs) (o : Obj) : Blk (w.alloc o) g t cs := h.keep ((Below.refl _ _).alloc (Nat.le_refl _) _)
theorem Blk.far {w : World} {g : Nat} {t : TypeId} {cs : List Value} (h : Blk w g t cs) {p : Addr} (hp : g ≠ p.block) (u : Value) : Blk (w.setCell p u) g t cs := (Below.heap_setCell w p u g hp).trans h
theorem Blk.set2 {w : World} {g : Nat} {t : TypeId} {a b : Value} (h : Blk w g t [a, b]) (u v : Value) : Blk ((w.setCell ⟨g, 0, none⟩ u).setCell ⟨g, 1, none⟩ v) g t [u, v] := (h.set 0 u).set 1 v
theorem Blk.setF {w : World} {g : Nat} {t : TypeId} {cs : List Value} (h : Blk w g t cs) (i : Nat) (u : Value) (g' : Nat) (hg : g = g') : Blk (w.setCell ⟨g', i, none⟩ u) g t (cs.set i u) := by subst hg; exact h.set i u
end Agg
