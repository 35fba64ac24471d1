/-
  A SLICE THAT CAN BE READ AS DATA, whatever its elements are: their list. Over any program.
-/
import Derived.Test.YtcedalenjcbnmaaGood
namespace Agg
open Go Go.RowKit

theorem flatMap_get {α : Type} (enc : α → List Value) (sz : Nat) (henc : ∀ x, (enc x).length = sz) : ∀ (l : List α) (i : Nat) (u : Value), (l.flatMap enc)[i]? = some u → ∃ (k j : Nat) (x : α), l[k]? = some x ∧ j < sz ∧ i = k * sz + j ∧ (enc x)[j]? = some u
  | [], i, u, h => by simp at h
  | a :: l, i, u, h => by
    rw [List.flatMap_cons] at h
    by_cases hi : i < sz
    · rw [List.getElem?_append_left (by rw [henc]; exact hi)] at h
      exact ⟨0, i, a, rfl, hi, by omega, h⟩
    · rw [List.getElem?_append_right (by rw [henc]; omega), henc] at h
      obtain ⟨k, j, x, h1, h2, h3, h4⟩ := flatMap_get enc sz henc l _ u h
      exact ⟨k + 1, j, x, h1, h2, by rw [Nat.succ_mul]; omega, h4⟩
theorem flatMap_len {α : Type} (enc : α → List Value) (sz : Nat) (henc : ∀ x, (enc x).length = sz) (l : List α) : (l.flatMap enc).length = l.length * sz := by
  induction l with
  | nil => simp
  | cons a l ih => rw [List.flatMap_cons, List.length_append, henc, ih, List.length_cons, Nat.succ_mul]; omega
theorem good_sl {P : Program} {w : World} {t e : TypeId} (ht : P.underlying t = some (.slice e)) {sz : Nat} (hc : P.cellsOf e = sz) {α : Type} (enc : α → List Value) (ok : α → Prop) (henc : ∀ x, (enc x).length = sz)
    (hopen : ∀ (fuel : Nat) (cs : List Value), Good P w fuel e cs → ∃ x, cs = enc x ∧ ok x) {fuel : Nat} {v : Value} (h : Good P w fuel t [v]) : ∃ l : List α, SlR w v sz l.length (l.flatMap enc) ∧ (∀ x ∈ l, ok x) ∧ l.length ≤ maxLen := by
  cases fuel with
  | zero => exact h.elim
  | succ n =>
    unfold Good at h
    rw [ht] at h
    rcases h with h | ⟨a, len, cap, h, hl, hm, hcs⟩
    · simp only [List.cons.injEq, and_true] at h
      subst h
      exact ⟨[], SlR.nil _ _, (fun x hx => by cases hx), Nat.zero_le _⟩
    · simp only [List.cons.injEq, and_true] at h
      subst h
      have key : ∀ i, i < len → ∃ x : α, ok x ∧ ∀ j, j < sz → w.cell? (a.add (i * sz + j)) = (enc x)[j]? := by
        intro i hi
        obtain ⟨cs', hcl, hat, hg⟩ := hcs i hi
        obtain ⟨x, rfl, hok⟩ := hopen n cs' hg
        rw [hc] at hat
        exact ⟨x, hok, hat⟩
      rcases Nat.eq_zero_or_pos len with h0 | h0
      · subst h0
        exact ⟨[], ⟨by simp, .inr ⟨a, cap, rfl, hl, hm, (fun i u hu => by simp at hu)⟩⟩, (fun x hx => by cases hx), Nat.zero_le _⟩
      · obtain ⟨x0, hx0, _⟩ := key 0 h0
        have hch : ∃ f : Nat → α, ∀ i, i < len → ok (f i) ∧ ∀ j, j < sz → w.cell? (a.add (i * sz + j)) = (enc (f i))[j]? :=
          ⟨fun i => if h : i < len then Classical.choose (key i h) else x0, fun i hi => by simp only [hi, dif_pos]; exact Classical.choose_spec (key i hi)⟩
        obtain ⟨f, hf⟩ := hch
        refine ⟨(List.range len).map f, ⟨by rw [flatMap_len enc sz henc], .inr ⟨a, cap, by simp, by simpa using hl, hm, fun i u hu => ?_⟩⟩, fun x hx => ?_, by simp; omega⟩
        · obtain ⟨k, j, x, h1, h2, rfl, h4⟩ := flatMap_get enc sz henc _ _ _ hu
          have hk : k < len := by have := (List.getElem?_eq_some_iff.1 h1).1; simpa using this
          rw [List.getElem?_map, List.getElem?_range hk] at h1
          simp only [Option.map_some, Option.some.injEq] at h1
          subst h1
          rw [(hf k hk).2 j h2]; exact h4
        · obtain ⟨i, hi, rfl⟩ := List.mem_map.1 hx
          exact (hf i (List.mem_range.1 hi)).1
/-- nothing that was at W is changed; kept over calls -/
def From (W w : World) : Prop := Below W.heap.size W w
theorem From.keep {W w w' : World} (h : From W w) (hb : Below w.heap.size w w') : From W w' := by
  have h' : Below W.heap.size W w := h
  exact h'.trans (hb.mono h'.size)
end Agg
