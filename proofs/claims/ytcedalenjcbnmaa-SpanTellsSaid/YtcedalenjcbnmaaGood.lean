/-
  WHAT AN ARGUMENT OF A FLAT TYPE (structs, arrays, of bools and integers) HOLDS: cells of its kinds. Over any program.
-/
import Derived.Test.YtcedalenjcbnmaaOpen
import Derived.Test.YtcedalenjcbnmaaEq
namespace Agg
open Go Go.RowKit

theorem Fits.of_chunks {l : List (Option IntKind)} : ∀ {m : Nat} {cs : List Value}, cs.length = m * l.length → (∀ i, i < m → Fits l ((cs.drop (i * l.length)).take l.length)) → Fits (List.replicate m l).flatten cs
  | 0, cs, hl, _ => by
    have : cs = [] := List.eq_nil_of_length_eq_zero (by simpa using hl)
    subst this; exact trivial
  | m + 1, cs, hl, h => by
    rw [List.replicate_succ, List.flatten_cons, ← List.take_append_drop l.length cs]
    refine Fits.app (by simpa using h 0 (by omega)) (Fits.of_chunks ?_ fun i hi => ?_)
    · rw [List.length_drop, hl, Nat.succ_mul]; omega
    · have := h (i + 1) (by omega)
      rw [List.drop_drop]
      rwa [show l.length + i * l.length = (i + 1) * l.length by rw [Nat.succ_mul]; omega]
theorem fields_fits {P : Program} {K : TypeId → Option (List (Option IntKind))} (cs : List Value) :
    ∀ (fs : List Field) (off : Nat) (ks : List (Option IntKind)), fieldKinds K P off fs = some ks → cs.length = off + ks.length → (∀ f ∈ fs, ∀ l, K f.type = some l → Fits l ((cs.drop f.offset).take (P.cellsOf f.type))) → Fits ks (cs.drop off)
  | [], off, ks, h, hl, _ => by
    simp only [fieldKinds, Option.some.injEq] at h
    subst h
    rw [List.drop_eq_nil_of_le (by simpa using Nat.le_of_eq hl)]
    exact trivial
  | f :: fs, off, ks, h, hl, hf => by
    unfold fieldKinds at h
    split at h
    · rename_i l hk
      split at h
      · rename_i hc
        simp only [Bool.and_eq_true, beq_iff_eq] at hc
        cases hr : fieldKinds K P (off + l.length) fs with
        | none => simp [hr] at h
        | some r =>
          simp only [hr, Option.map_some, Option.some.injEq] at h
          subst h
          have h1 := hf f (by simp) l hk
          rw [hc.1.2, ← hc.2] at h1
          have h2 := fields_fits cs fs _ r hr (by rw [hl, List.length_append]; omega) (fun g hg => hf g (by simp [hg]))
          rw [← List.take_append_drop l.length (cs.drop off), List.drop_drop]
          exact Fits.app h1 h2
      · cases h
    · cases h
theorem good_fits {P : Program} {w : World} : ∀ (fuel n : Nat) (t : TypeId) (ks : List (Option IntKind)) (cs : List Value), flatKinds P n t = some ks → Good P w fuel t cs → Fits ks cs
  | 0, _, _, _, _, _, h => h.elim
  | _ + 1, 0, _, _, _, h, _ => by simp [flatKinds] at h
  | fuel + 1, n + 1, t, ks, cs, hk, h => by
    unfold flatKinds at hk
    unfold Good at h
    cases hu : P.underlying t with
    | none => simp [hu] at hk
    | some d =>
      simp only [hu] at hk h
      cases d
      case bool =>
        simp only [Option.some.injEq] at hk
        subst hk
        obtain ⟨b, rfl⟩ := h
        exact ⟨⟨b, rfl⟩, trivial⟩
      case int k =>
        simp only [Option.some.injEq] at hk
        subst hk
        obtain ⟨z, rfl, h0, h1⟩ := h
        exact ⟨⟨z, rfl, by simp [Lit.wf, h0, h1]⟩, trivial⟩
      case array m e =>
        simp only at hk
        split at hk
        · rename_i l hl
          split at hk
          · rename_i hc
            simp only [Bool.and_eq_true, beq_iff_eq] at hc
            simp only [Option.some.injEq] at hk
            subst hk
            refine Fits.of_chunks (by rw [h.1, hc.2]) fun i hi => ?_
            have := good_fits fuel n e l _ hl (h.2 i hi)
            rwa [← hc.1] at this
          · cases hk
        · cases hk
      case struct fs =>
        simp only at hk
        split at hk
        · rename_i l hl
          split at hk
          · rename_i hc
            simp only [beq_iff_eq] at hc
            simp only [Option.some.injEq] at hk
            subst hk
            have := fields_fits (P := P) (K := flatKinds P n) cs fs.toList 0 l hl (by rw [h.1, hc, Nat.zero_add]) fun f hf lf hlf => by
              obtain ⟨i, hi, rfl⟩ := List.mem_iff_getElem.1 hf
              have hi' : i < fs.size := by simpa using hi
              exact good_fits fuel n _ lf _ hlf (h.2 i _ (by simp [hi']))
            simpa using this
          · cases hk
        · cases hk
      all_goals (simp at hk; done)
end Agg
