/-
  WHAT AN ARGUMENT THAT CAN BE READ AS DATA HOLDS, cell by cell, whatever its type (of bools, integers, strings, structs, arrays, slices). Over any program.
-/
import Derived.Test.YtcedalenjcbnmaaAgg
import Derived.OpenShut
import Derived.ShutString
import Derived.ChangeOld
import Derived.Deep.Slices
namespace Agg
open Go Go.RowKit Go.ChangeShapes Go.WideShapes Go.Deep

theorem okWide_array {P : Program} {w : World} {r : Reach} {base : Nat} {t : TypeId} {v : Value} {n : Nat} {e : TypeId} (ht : P.underlying t = some (.array n e)) (h : Value.okWide P w r base t v) : ∃ cs, v = .agg cs ∧ cs.size = P.cellsOf t := by
  simp only [Value.okWide, ht] at h
  obtain ⟨cs, h1, h2, _⟩ := h
  exact ⟨cs, h1, h2⟩
def Good (P : Program) (w : World) : Nat → TypeId → List Value → Prop
  | 0, _, _ => False
  | n + 1, t, cs =>
    match P.underlying t with
    | some .bool => ∃ b, cs = [.bool b]
    | some (.int k) => ∃ z : Int, cs = [.int k z] ∧ k.min ≤ z ∧ z ≤ k.max
    | some .string => ∃ s : ByteArray, cs = [.string s] ∧ s.size ≤ maxLen
    | some (.struct fs) => cs.length = P.cellsOf t ∧ ∀ (i : Nat) (f : Field), fs[i]? = some f → Good P w n f.type ((cs.drop f.offset).take (P.cellsOf f.type))
    | some (.array m e) => cs.length = P.cellsOf t ∧ ∀ i : Nat, i < m → Good P w n e ((cs.drop (i * P.cellsOf e)).take (P.cellsOf e))
    | some (.slice e) => cs = [.slice none 0 0] ∨ ∃ (a : Addr) (len cap : Nat), cs = [.slice (some a) len cap] ∧ len ≤ cap ∧ cap ≤ maxLen ∧
        ∀ i : Nat, i < len → ∃ cs' : List Value, cs'.length = P.cellsOf e ∧ (∀ j : Nat, j < P.cellsOf e → w.cell? (a.add (i * P.cellsOf e + j)) = cs'[j]?) ∧ Good P w n e cs'
    | _ => True

theorem good_of_trod {H : Type} {enc : TypeId × Value → H} {P : Program} {w : World} {base : Nat} {spare : Nat → Bool} {held : Bool} : ∀ (fuel : Nat) (t : TypeId) (cs : List Value) (x : DataW H × List MemPlace),
    DataW.trod enc P w base spare held fuel t cs = some x → Good P w fuel t cs
  | 0, _, _, _, h => by simp [DataW.trod] at h
  | n + 1, t, cs, x, h => by
    unfold Good
    split
    · rename_i ht; obtain ⟨b, hb, _⟩ := DataW.trod_bool ht h; exact ⟨b, hb⟩
    · rename_i k ht
      obtain ⟨z, hz, _, hw⟩ := DataW.trod_int ht h
      simp only [Lit.wf, Bool.and_eq_true, decide_eq_true_eq] at hw
      exact ⟨z, hz, hw⟩
    · rename_i ht; obtain ⟨s, hs, _, hm⟩ := DataW.trod_string ht h; exact ⟨s, hs, hm⟩
    · rename_i fs ht
      obtain ⟨xs, m, hm, _, hl, hxl, hf⟩ := DataW.trod_struct ht h
      obtain rfl : n = m := by omega
      refine ⟨hl, fun i f hi => ?_⟩
      have h1 := hf i f hi
      have hlt : i < xs.length := by rw [hxl]; exact (Array.getElem?_eq_some_iff.1 hi).1
      rw [List.getElem?_eq_getElem hlt] at h1
      exact good_of_trod n _ _ _ h1
    · rename_i m e ht
      obtain ⟨xs, m', hm, _, hl, hxl, hf⟩ := DataW.trod_array ht h
      obtain rfl : n = m' := by omega
      refine ⟨hl, fun i hi => ?_⟩
      have h1 := hf i hi
      have hlt : i < xs.length := by omega
      rw [List.getElem?_eq_getElem hlt] at h1
      exact good_of_trod n _ _ _ h1
    · rename_i e ht
      rcases DataW.trod_slice ht h with ⟨h0, _⟩ | ⟨a, len, cap, elems, rest, m, hm, hcs, _, _, hl, hcm, hlen, hel, _⟩
      · exact .inl h0
      · obtain rfl : n = m := by omega
        refine .inr ⟨a, len, cap, hcs, hl, hcm, fun i hi => ?_⟩
        have h1 := hel i hi
        rw [List.getElem?_eq_getElem (by omega)] at h1
        obtain ⟨cs', hc, ht'⟩ := Option.bind_eq_some_iff.1 h1
        obtain ⟨_, hcl, hat⟩ := World.cells?_some hc
        exact ⟨cs', hcl, fun j hj => by rw [← hat j hj, Go.Deep.add_add], good_of_trod n _ _ _ ht'⟩
    · trivial

/-- a slice of bytes that can be read -/
theorem good_bytes {P : Program} {w : World} {t e : TypeId} (ht : P.underlying t = some (.slice e)) (he : P.underlying e = some (.int .u8)) (hc : P.cellsOf e = 1) {fuel : Nat} {v : Value} (h : Good P w fuel t [v]) :
    ∃ l : List UInt8, Bytes w v l ∧ l.length ≤ maxLen := by
  cases fuel with
  | zero => exact h.elim
  | succ n =>
    unfold Good at h
    rw [ht] at h
    rcases h with h | ⟨a, len, cap, h, hl, hm, hcs⟩
    · simp only [List.cons.injEq, and_true] at h
      subst h
      exact ⟨[], SlR.nil _ _, Nat.zero_le _⟩
    · simp only [List.cons.injEq, and_true] at h
      subst h
      have key : ∀ i, i < len → ∃ c : UInt8, w.cell? (a.add i) = some (.int .u8 (c.toNat : Int)) := by
        intro i hi
        obtain ⟨cs', hcl, hat, hg⟩ := hcs i hi
        cases n with
        | zero => exact hg.elim
        | succ n =>
          unfold Good at hg
          rw [he] at hg
          obtain ⟨z, rfl, h0, h1⟩ := hg
          have := hat 0 (by omega)
          rw [hc, Nat.mul_one, Nat.add_zero] at this
          simp only [IntKind.min, IntKind.max, IntKind.signed, IntKind.bits] at h0 h1
          have h0' : 0 ≤ z := by simpa using h0
          have h1' : z ≤ 255 := by simpa using h1
          refine ⟨UInt8.ofNat z.toNat, ?_⟩
          rw [this]
          simp only [List.getElem?_cons_zero]
          congr 2
          rw [UInt8.toNat_ofNat']; omega
      have hch : ∃ f : Nat → UInt8, ∀ i, i < len → w.cell? (a.add i) = some (.int .u8 ((f i).toNat : Int)) :=
        ⟨fun i => if h : i < len then Classical.choose (key i h) else 0, fun i hi => by simp only [hi, dif_pos]; exact Classical.choose_spec (key i hi)⟩
      obtain ⟨f, hf⟩ := hch
      refine ⟨(List.range len).map f, ⟨by simp [bv_length], .inr ⟨a, cap, by simp, by simpa using hl, hm, fun i u hu => ?_⟩⟩, by simp; omega⟩
      have hi : i < len := by
        have := (List.getElem?_eq_some_iff.1 hu).1
        simpa [bv] using this
      rw [bv_get _ _ (by simpa using hi)] at hu
      simp only [List.getElem_map, List.getElem_range, Option.some.injEq] at hu
      subst hu
      exact hf i hi
/-- rows of bytes that can be read -/
theorem good_rows {P : Program} {w : World} {t s e : TypeId} (ht : P.underlying t = some (.slice s)) (hs : P.underlying s = some (.slice e)) (he : P.underlying e = some (.int .u8)) (hcs : P.cellsOf s = 1) (hc : P.cellsOf e = 1) {fuel : Nat} {v : Value} (h : Good P w fuel t [v]) :
    ∃ ls : List (List UInt8), Rows2 w v ls ∧ ∀ l ∈ ls, l.length ≤ maxLen := by
  cases fuel with
  | zero => exact h.elim
  | succ n =>
    unfold Good at h
    rw [ht] at h
    rcases h with h | ⟨a, len, cap, h, hl, hm, hel⟩
    · simp only [List.cons.injEq, and_true] at h
      subst h
      exact ⟨[], ⟨[], SlR.nil _ _, fun i l hl => by simp at hl⟩, fun l hl => by cases hl⟩
    · simp only [List.cons.injEq, and_true] at h
      subst h
      have key : ∀ i, i < len → ∃ x : Value × List UInt8, w.cell? (a.add i) = some x.1 ∧ Bytes w x.1 x.2 ∧ x.2.length ≤ maxLen := by
        intro i hi
        obtain ⟨cs', hcl, hat, hg⟩ := hel i hi
        rw [hcs] at hcl
        match cs', hcl with
        | [u], _ =>
          obtain ⟨l, hb, hlm⟩ := good_bytes hs he hc hg
          have := hat 0 (by omega)
          rw [hcs, Nat.mul_one, Nat.add_zero] at this
          exact ⟨(u, l), this, hb, hlm⟩
      have hch : ∃ f : Nat → Value × List UInt8, ∀ i, i < len → w.cell? (a.add i) = some (f i).1 ∧ Bytes w (f i).1 (f i).2 ∧ (f i).2.length ≤ maxLen :=
        ⟨fun i => if h : i < len then Classical.choose (key i h) else (.nilFunc, []), fun i hi => by simp only [hi, dif_pos]; exact Classical.choose_spec (key i hi)⟩
      obtain ⟨f, hf⟩ := hch
      refine ⟨(List.range len).map fun i => (f i).2, ⟨(List.range len).map fun i => (f i).1, ⟨by simp, .inr ⟨a, cap, by simp, by simpa using hl, hm, fun i u hu => ?_⟩⟩, fun i l hl' => ?_⟩, fun l hl' => ?_⟩
      · have hi : i < len := by have := (List.getElem?_eq_some_iff.1 hu).1; simpa using this
        simp only [List.getElem?_map, List.getElem?_range hi, Option.map_some, Option.some.injEq] at hu
        subst hu
        exact (hf i hi).1
      · have hi : i < len := by have := (List.getElem?_eq_some_iff.1 hl').1; simpa using this
        simp only [List.getElem?_map, List.getElem?_range hi, Option.map_some, Option.some.injEq] at hl' ⊢
        subst hl'
        exact ⟨_, rfl, (hf i hi).2.1⟩
      · obtain ⟨i, hi, rfl⟩ := List.mem_map.1 hl'
        exact (hf i (List.mem_range.1 hi)).2.2
end Agg
