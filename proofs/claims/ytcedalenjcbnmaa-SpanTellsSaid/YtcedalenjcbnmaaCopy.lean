/-
  COPY AND SLICE EXPRESSIONS, elements of any size, over any program.
-/
import Derived.Test.YtcedalenjcbnmaaKn
import Derived.Laws.CopyRow
import Derived.Laws.Slices
namespace Agg
open Go Go.RowKit

theorem min_mul (a b c : Nat) : Nat.min a b * c ≤ a * c := Nat.mul_le_mul_right _ (Nat.min_le_left _ _)
/-- what a row holds behind a copy -/
def spliced (xs : List Value) (off : Nat) (cs : List Value) : List Value := xs.take off ++ cs ++ xs.drop (off + cs.length)
theorem spliced_mid (a b c d : List Value) (n : Nat) (hn : a.length = n) (h : b.length = d.length) : spliced (a ++ b ++ c) n d = a ++ d ++ c := by
  have h1 : (a ++ b ++ c).take n = a := by rw [List.append_assoc, List.take_left' hn]
  have h2 : (a ++ b ++ c).drop (n + d.length) = c := List.drop_left' (by simp [hn, h])
  rw [spliced, h1, h2]
theorem run_copy_own {P : Program} {t t' e : TypeId} {size bytes : Nat} {z : Value} (T : TI P t e size bytes z) (ty : TypeId) (w : World) {base g n cap : Nat} {xs : List Value} (hown : w.ownsRow base e size (.slice (some ⟨g, 0, none⟩) n cap) n xs)
    (off dl dc : Nat) {sv : Value} {m : Nat} {cs : List Value} (hsl : SlR w sv size m cs) (h1 : ∀ u ∈ cs, u.oneCell' = true) (k : Nat) (hk : k = Nat.min m dl) (hoff : off + k ≤ n) :
    ∃ w', (Builtin.copy_ #[t, t'] ty #[.slice (some ⟨g, off * size, none⟩) dl dc, sv]).run P w = .ok (goInt k) w' ∧ w'.ownsRow base e size (.slice (some ⟨g, 0, none⟩) n cap) n (spliced xs (off * size) (cs.take (k * size))) ∧ w.grownBy w' (some g) := by
  obtain ⟨i, hi, hz, hs, hb⟩ := T.info
  rcases hown.2 with ⟨h, _⟩ | ⟨g', cap', cur, hv, hbg, hg, hn, hm, hcs, ht⟩
  · cases h
  simp only [Value.slice.injEq, Option.some.injEq, Addr.mk.injEq, and_true, true_and] at hv
  obtain ⟨rfl, rfl⟩ := hv
  have hkl : (cs.take (k * size)).length = k * size := by
    rw [List.length_take, hsl.1, hk]
    exact Nat.min_eq_left (min_mul _ _ _)
  have hxl := hown.1
  have hfit : off * size + k * size ≤ n * size := by rw [← Nat.add_mul]; exact Nat.mul_le_mul_right _ hoff
  have hncap : n * size ≤ cap * size := Nat.mul_le_mul_right _ hn
  have hst := run_storeCells_at P g (off * size) e (cs.take (k * size)) 0 cur w hg (by rw [hkl, hcs]; omega) (fun u hu => h1 u (List.mem_of_mem_take hu))
  simp only [Nat.add_zero, hkl] at hst
  have hrow : (w.setRow g (cur.toList.take (off * size) ++ cs.take (k * size) ++ cur.toList.drop (off * size + k * size)).toArray).ownsRow base e size (.slice (some ⟨g, 0, none⟩) n cap) n (spliced xs (off * size) (cs.take (k * size))) := by
    refine ⟨?_, .inr ⟨g, cap, _, rfl, hbg, setRow_heap w g cur _ e (0, 0) hg, hn, hm, ?_, ?_⟩⟩
    · simp only [spliced, List.length_append, List.length_drop, hkl, List.length_take, hxl]; omega
    · simp only [List.size_toArray, List.length_append, List.length_drop, hkl, List.length_take, Array.length_toList, hcs]; omega
    · simp only [spliced, ← ht, hkl]
      apply List.ext_getElem?
      intro j
      by_cases h1 : j < off * size
      · rw [List.getElem?_take_of_lt (by omega), List.append_assoc, List.append_assoc, List.getElem?_append_left (by rw [List.length_take, Array.length_toList, hcs]; omega), List.getElem?_append_left (by rw [List.length_take, List.length_take, Array.length_toList, hcs]; omega), List.getElem?_take_of_lt h1, List.getElem?_take_of_lt h1, List.getElem?_take_of_lt (by omega)]
      · have l1 : (cur.toList.take (off * size)).length = off * size := by rw [List.length_take, Array.length_toList, hcs]; omega
        have l2 : ((cur.toList.take (n * size)).take (off * size)).length = off * size := by rw [List.length_take, List.length_take, Array.length_toList, hcs]; omega
        by_cases h2 : j < n * size
        · have e1 : ∀ (B C : List Value), (cur.toList.take (off * size) ++ (B ++ C))[j]? = (B ++ C)[j - off * size]? := fun B C => by rw [List.getElem?_append_right (by omega), l1]
          have e2 : ∀ (B C : List Value), ((cur.toList.take (n * size)).take (off * size) ++ (B ++ C))[j]? = (B ++ C)[j - off * size]? := fun B C => by rw [List.getElem?_append_right (by omega), l2]
          rw [List.getElem?_take_of_lt h2, List.append_assoc, List.append_assoc, e1, e2]
          by_cases h3 : j - off * size < k * size
          · rw [List.getElem?_append_left (by omega), List.getElem?_append_left (by omega)]
          · rw [List.getElem?_append_right (by omega), List.getElem?_append_right (by omega), hkl, List.getElem?_drop, List.getElem?_drop, List.getElem?_take_of_lt (by omega)]
        · rw [List.getElem?_take_eq_none (by omega), List.getElem?_eq_none]
          simp only [List.length_append, List.length_drop, hkl, l2, List.length_take, Array.length_toList, hcs]; omega
  refine ⟨_, ?_, hrow, ⟨rfl, rfl, rfl, by simp, fun j _ hj => setRow_other w g j _ (fun e => hj (by rw [e]))⟩⟩
  rcases hsl.2 with ⟨rfl, rfl⟩ | ⟨x, cap2, rfl, h3, h4, h5⟩
  · have : k = 0 := by rw [hk]; exact Nat.min_eq_left (Nat.zero_le _)
    subst this
    simp only [Nat.zero_mul, List.take_zero, Nat.add_zero, List.append_nil, List.take_append_drop, Array.toArray_toList]
    rw [setRow_self w g cur e (0, 0) hg]
    have : (0 : Nat).min dl = 0 := Nat.min_eq_left (Nat.zero_le _)
    simp [Builtin.copy_, run_underlying T.ht, Builtin.lenOf, Builtin.firstCells, Go.sizeOf, typeInfo, hi, storeCells, this]
  · have hl := run_loadCells_list (P := P) w x (cs.take (k * size)) (fun j u hu => h5 j u (by
      rw [List.getElem?_take] at hu
      split at hu
      · exact hu
      · cases hu))
    rw [hkl, hk] at hl
    rw [hk] at hst
    simp [Builtin.copy_, run_underlying T.ht, Builtin.lenOf, Builtin.firstCells, Go.sizeOf, typeInfo, hi, hl, hs, hst, hk]

section
variable {P : Program} {ops : Array Oper} {rest : List Oper} {o : Oper} {a : Act} {w : World} {Q : Exit → Act → World → Prop}
theorem copy {t t' e : TypeId} {size bytes : Nat} {z : Value} (T : TI P t e size bytes z) (d s : Operand) (hgd : o.guard = none) (ho : o.op = .call { callee := .builtin .copy, args := #[d, s], argTypes := #[t, t'] })
    {base g n cap : Nat} {xs : List Value} (hown : w.ownsRow base e size (.slice (some ⟨g, 0, none⟩) n cap) n xs) (off dl dc : Nat) {fo : Nat} (hd : a.eval d = .slice (some ⟨g, fo, none⟩) dl dc) (hfo : fo = off * size) {sv : Value} (hs : a.eval s = sv) {m : Nat} {cs : List Value}
    (hsl : SlR w sv size m cs) (h1 : ∀ u ∈ cs, u.oneCell' = true) (k : Nat) (hk : k = Nat.min m dl) (hoff : off + k ≤ n)
    (h : ∀ w', Hid (w'.ownsRow base e size (.slice (some ⟨g, 0, none⟩) n cap) n (spliced xs (off * size) (cs.take (k * size)))) → w.grownBy w' (some g) → wpList P ops Q rest (a.put o.dst (.int .i64 k)) w') : wpList P ops Q (o :: rest) a w := by
  subst hfo
  obtain ⟨w', hr, h2, h3⟩ := run_copy_own (t' := t') T o.type w hown off dl dc hsl h1 k hk hoff
  refine run hgd (.int .i64 k) w' ?_ (h w' h2 h3)
  simp [execOp, ho, resolve, hd, hs, invoke, builtin, hr, goInt]
end

theorem own_cap {w : World} {base : Nat} {e : TypeId} {size g n cap : Nat} {xs : List Value} (h : w.ownsRow base e size (.slice (some ⟨g, 0, none⟩) n cap) n xs) : n ≤ cap ∧ cap ≤ maxLen ∧ base ≤ g ∧ g < w.heap.size := by
  rcases h.2 with ⟨h, _⟩ | ⟨g', cap', cur, hv, hbg, hg, hn, hm, hcs, ht⟩
  · cases h
  · simp only [Value.slice.injEq, Option.some.injEq, Addr.mk.injEq, and_true, true_and] at hv
    obtain ⟨rfl, rfl⟩ := hv
    exact ⟨hn, hm, hbg, (Array.getElem?_eq_some_iff.1 hg).1⟩

/-- s[k:] where something is left -/
theorem run_slice_from {P : Program} {t e : TypeId} {size bytes : Nat} {z : Value} (T : TI P t e size bytes z) (b f len cap k : Nat) (hk : k ≤ len) (hlt : k < cap) (w : World) :
    (Instr.sliceAt t (.slice (some ⟨b, f, none⟩) len cap) (some (.int .i64 (k : Int))) none none).run P w = .ok (.slice (some ⟨b, f + k * size, none⟩) (len - k) (cap - k)) w := by
  obtain ⟨i, hi, hz, hs, hb⟩ := T.info
  have h1 : ¬ cap = k := by omega
  simp [Instr.sliceAt, Instr.slice, Instr.sliceBounds, Instr.sliceBound, run_underlying T.ht, asIntOf, hk, Go.sizeOf, typeInfo, hi, hs, h1, add_none]
/-- s[k:m] -/
theorem run_slice_fromto {P : Program} {t e : TypeId} {size bytes : Nat} {z : Value} (T : TI P t e size bytes z) (b f len cap k m : Nat) (hk : k ≤ m) (hc : m ≤ cap) (hlt : k < cap) (w : World) :
    (Instr.sliceAt t (.slice (some ⟨b, f, none⟩) len cap) (some (.int .i64 (k : Int))) (some (.int .i64 (m : Int))) none).run P w = .ok (.slice (some ⟨b, f + k * size, none⟩) (m - k) (cap - k)) w := by
  obtain ⟨i, hi, hz, hs, hb⟩ := T.info
  have h1 : ¬ cap = k := by omega
  simp [Instr.sliceAt, Instr.slice, Instr.sliceBounds, Instr.sliceBound, run_underlying T.ht, asIntOf, hk, hc, Go.sizeOf, typeInfo, hi, hs, h1, add_none]
/-- s[:m] -/
theorem run_slice_upto {P : Program} {t e : TypeId} {size bytes : Nat} {z : Value} (T : TI P t e size bytes z) (x : Option Addr) (len cap m : Nat) (hc : m ≤ cap) (w : World) :
    (Instr.sliceAt t (.slice x len cap) none (some (.int .i64 (m : Int))) none).run P w = .ok (.slice x m cap) w := by
  obtain ⟨i, hi, hz, hs, hb⟩ := T.info
  cases x with
  | none => simp [Instr.sliceAt, Instr.slice, Instr.sliceBounds, Instr.sliceBound, run_underlying T.ht, asIntOf, hc, Go.sizeOf, typeInfo, hi]
  | some a => simp [Instr.sliceAt, Instr.slice, Instr.sliceBounds, Instr.sliceBound, run_underlying T.ht, asIntOf, hc, Go.sizeOf, typeInfo, hi, Addr.add]
end Agg
