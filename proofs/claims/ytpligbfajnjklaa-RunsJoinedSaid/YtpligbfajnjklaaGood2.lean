/-
  WHAT AN ARGUMENT OF A FLAT TYPE (structs, arrays, of bools and integers) HOLDS: cells of its kinds. Over any program.
-/
import Derived.Test.YtpligbfajnjklaaOpen
import Derived.Test.YtpligbfajnjklaaRu8
section
namespace Agg
open Go Go.RowKit

theorem Fits.of_chunks {l : List (Option IntKind)} : ∀ {m : Nat} {cs : List Value}, cs.length = m * l.length → (∀ i, i < m → Fits l ((cs.drop (i * l.length)).take l.length)) → Fits (List.replicate m l).flatten cs
  | 0, cs, hl, _ => by
    have : cs = [] := List.eq_nil_of_length_eq_zero (by simpa using hl)
    subst this; exact trivial
  | m + 1, cs, hl, h => by
    rw [List.replicate_succ, List.flatten_cons, ← List.take_append_drop l.length cs]
    refine Fits.app (by simpa using h 0 (by omega)) (Fits.of_chunks ?_ fun i hi => ?_)
    · rw [List.length_drop, hl, Nat.succ_mul]; omega
    · have := h (i + 1) (by omega)
      rw [List.drop_drop]
      rwa [show l.length + i * l.length = (i + 1) * l.length by rw [Nat.succ_mul]; omega]
theorem fields_fits {P : Program} {K : TypeId → Option (List (Option IntKind))} (cs : List Value) :
    ∀ (fs : List Field) (off : Nat) (ks : List (Option IntKind)), fieldKinds K P off fs = some ks → cs.length = off + ks.length → (∀ f ∈ fs, ∀ l, K f.type = some l → Fits l ((cs.drop f.offset).take (P.cellsOf f.type))) → Fits ks (cs.drop off)
  | [], off, ks, h, hl, _ => by
    simp only [fieldKinds, Option.some.injEq] at h
    subst h
    rw [List.drop_eq_nil_of_le (by simpa using Nat.le_of_eq hl)]
    exact trivial
  | f :: fs, off, ks, h, hl, hf => by
    unfold fieldKinds at h
    split at h
    · rename_i l hk
      split at h
      · rename_i hc
        simp only [Bool.and_eq_true, beq_iff_eq] at hc
        cases hr : fieldKinds K P (off + l.length) fs with
        | none => simp [hr] at h
        | some r =>
          simp only [hr, Option.map_some, Option.some.injEq] at h
          subst h
          have h1 := hf f (by simp) l hk
          rw [hc.1.2, ← hc.2] at h1
          have h2 := fields_fits cs fs _ r hr (by rw [hl, List.length_append]; omega) (fun g hg => hf g (by simp [hg]))
          rw [← List.take_append_drop l.length (cs.drop off), List.drop_drop]
          exact Fits.app h1 h2
      · cases h
    · cases h
theorem good_fits {P : Program} {w : World} : ∀ (fuel n : Nat) (t : TypeId) (ks : List (Option IntKind)) (cs : List Value), flatKinds P n t = some ks → Good P w fuel t cs → Fits ks cs
  | 0, _, _, _, _, _, h => h.elim
  | _ + 1, 0, _, _, _, h, _ => by simp [flatKinds] at h
  | fuel + 1, n + 1, t, ks, cs, hk, h => by
    unfold flatKinds at hk
    unfold Good at h
    cases hu : P.underlying t with
    | none => simp [hu] at hk
    | some d =>
      simp only [hu] at hk h
      cases d
      case bool =>
        simp only [Option.some.injEq] at hk
        subst hk
        obtain ⟨b, rfl⟩ := h
        exact ⟨⟨b, rfl⟩, trivial⟩
      case int k =>
        simp only [Option.some.injEq] at hk
        subst hk
        obtain ⟨z, rfl, h0, h1⟩ := h
        exact ⟨⟨z, rfl, by simp [Lit.wf, h0, h1]⟩, trivial⟩
      case array m e =>
        simp only at hk
        split at hk
        · rename_i l hl
          split at hk
          · rename_i hc
            simp only [Bool.and_eq_true, beq_iff_eq] at hc
            simp only [Option.some.injEq] at hk
            subst hk
            refine Fits.of_chunks (by rw [h.1, hc.2]) fun i hi => ?_
            have := good_fits fuel n e l _ hl (h.2 i hi)
            rwa [← hc.1] at this
          · cases hk
        · cases hk
      case struct fs =>
        simp only at hk
        split at hk
        · rename_i l hl
          split at hk
          · rename_i hc
            simp only [beq_iff_eq] at hc
            simp only [Option.some.injEq] at hk
            subst hk
            have := fields_fits (P := P) (K := flatKinds P n) cs fs.toList 0 l hl (by rw [h.1, hc, Nat.zero_add]) fun f hf lf hlf => by
              obtain ⟨i, hi, rfl⟩ := List.mem_iff_getElem.1 hf
              have hi' : i < fs.size := by simpa using hi
              exact good_fits fuel n _ lf _ hlf (h.2 i _ (by simp [hi']))
            simpa using this
          · cases hk
        · cases hk
      all_goals (simp at hk; done)
end Agg
end
section
/-
  A SLICE THAT CAN BE READ AS DATA, whatever its elements are: their list. Over any program.
-/
namespace Agg
open Go Go.RowKit

theorem flatMap_get {α : Type} (enc : α → List Value) (sz : Nat) (henc : ∀ x, (enc x).length = sz) : ∀ (l : List α) (i : Nat) (u : Value), (l.flatMap enc)[i]? = some u → ∃ (k j : Nat) (x : α), l[k]? = some x ∧ j < sz ∧ i = k * sz + j ∧ (enc x)[j]? = some u
  | [], i, u, h => by simp at h
  | a :: l, i, u, h => by
    rw [List.flatMap_cons] at h
    by_cases hi : i < sz
    · rw [List.getElem?_append_left (by rw [henc]; exact hi)] at h
      exact ⟨0, i, a, rfl, hi, by omega, h⟩
    · rw [List.getElem?_append_right (by rw [henc]; omega), henc] at h
      obtain ⟨k, j, x, h1, h2, h3, h4⟩ := flatMap_get enc sz henc l _ u h
      exact ⟨k + 1, j, x, h1, h2, by rw [Nat.succ_mul]; omega, h4⟩
theorem flatMap_len {α : Type} (enc : α → List Value) (sz : Nat) (henc : ∀ x, (enc x).length = sz) (l : List α) : (l.flatMap enc).length = l.length * sz := by
  induction l with
  | nil => simp
  | cons a l ih => rw [List.flatMap_cons, List.length_append, henc, ih, List.length_cons, Nat.succ_mul]; omega
theorem good_sl {P : Program} {w : World} {t e : TypeId} (ht : P.underlying t = some (.slice e)) {sz : Nat} (hc : P.cellsOf e = sz) {α : Type} (enc : α → List Value) (ok : α → Prop) (henc : ∀ x, (enc x).length = sz)
    (hopen : ∀ (fuel : Nat) (cs : List Value), Good P w fuel e cs → ∃ x, cs = enc x ∧ ok x) {fuel : Nat} {v : Value} (h : Good P w fuel t [v]) : ∃ l : List α, SlR w v sz l.length (l.flatMap enc) ∧ (∀ x ∈ l, ok x) ∧ l.length ≤ maxLen := by
  cases fuel with
  | zero => exact h.elim
  | succ n =>
    unfold Good at h
    rw [ht] at h
    rcases h with h | ⟨a, len, cap, h, hl, hm, hcs⟩
    · simp only [List.cons.injEq, and_true] at h
      subst h
      exact ⟨[], SlR.nil _ _, (fun x hx => by cases hx), Nat.zero_le _⟩
    · simp only [List.cons.injEq, and_true] at h
      subst h
      have key : ∀ i, i < len → ∃ x : α, ok x ∧ ∀ j, j < sz → w.cell? (a.add (i * sz + j)) = (enc x)[j]? := by
        intro i hi
        obtain ⟨cs', hcl, hat, hg⟩ := hcs i hi
        obtain ⟨x, rfl, hok⟩ := hopen n cs' hg
        rw [hc] at hat
        exact ⟨x, hok, hat⟩
      rcases Nat.eq_zero_or_pos len with h0 | h0
      · subst h0
        exact ⟨[], ⟨by simp, .inr ⟨a, cap, rfl, hl, hm, (fun i u hu => by simp at hu)⟩⟩, (fun x hx => by cases hx), Nat.zero_le _⟩
      · obtain ⟨x0, hx0, _⟩ := key 0 h0
        have hch : ∃ f : Nat → α, ∀ i, i < len → ok (f i) ∧ ∀ j, j < sz → w.cell? (a.add (i * sz + j)) = (enc (f i))[j]? :=
          ⟨fun i => if h : i < len then Classical.choose (key i h) else x0, fun i hi => by simp only [hi, dif_pos]; exact Classical.choose_spec (key i hi)⟩
        obtain ⟨f, hf⟩ := hch
        refine ⟨(List.range len).map f, ⟨by rw [flatMap_len enc sz henc], .inr ⟨a, cap, by simp, by simpa using hl, hm, fun i u hu => ?_⟩⟩, fun x hx => ?_, by simp; omega⟩
        · obtain ⟨k, j, x, h1, h2, rfl, h4⟩ := flatMap_get enc sz henc _ _ _ hu
          have hk : k < len := by have := (List.getElem?_eq_some_iff.1 h1).1; simpa using this
          rw [List.getElem?_map, List.getElem?_range hk] at h1
          simp only [Option.map_some, Option.some.injEq] at h1
          subst h1
          rw [(hf k hk).2 j h2]; exact h4
        · obtain ⟨i, hi, rfl⟩ := List.mem_map.1 hx
          exact (hf i (List.mem_range.1 hi)).1
/-- nothing that was at W is changed; kept over calls -/
def From (W w : World) : Prop := Below W.heap.size W w
theorem From.keep {W w w' : World} (h : From W w) (hb : Below w.heap.size w w') : From W w' := by
  have h' : Below W.heap.size W w := h
  exact h'.trans (hb.mono h'.size)
end Agg
end
