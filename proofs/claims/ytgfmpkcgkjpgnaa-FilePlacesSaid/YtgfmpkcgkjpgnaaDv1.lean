/-
  EQUALITY OF WHOLE ROWS OF CELLS (structs, arrays, of bools and integers), over any program.
-/
import Derived.DeepKeys2
import Derived.Laws.StructEq
import Derived.Test.YtgfmpkcgkjpgnaaRows
import Derived.WalkKit
import Derived.ProofKit
import Derived.OpenShut
import Derived.Below
import Derived.StillTailTactics
import Derived.Lib.Hide
import Derived.BigQuiet
import Derived.Deep.QuietTactic
import Derived.WalkMore
import Derived.Maps.AppendAt
import Derived.Deep.Cut
import Derived.Test.YtgfmpkcgkjpgnaaAgg
import Derived.Test.YtgfmpkcgkjpgnaaOpen
import Derived.Test.YtgfmpkcgkjpgnaaCopy
import Derived.Test.YtgfmpkcgkjpgnaaKn
section
namespace Agg
open Go Go.RowKit

/-- the kinds of a flat type's cells, in order (none: a bool) -/
def fieldKinds (K : TypeId → Option (List (Option IntKind))) (P : Program) : Nat → List Field → Option (List (Option IntKind))
  | _, [] => some []
  | off, f :: fs => match K f.type with
    | some l => if f.name != "_" && f.offset == off && l.length == P.cellsOf f.type then (fieldKinds K P (off + l.length) fs).map (l ++ ·) else none
    | none => none
def flatKinds (P : Program) : Nat → TypeId → Option (List (Option IntKind))
  | 0, _ => none
  | n + 1, t => match P.underlying t with
    | some .bool => some [none]
    | some (.int k) => some [some k]
    | some (.array m e) => match flatKinds P n e with
      | some l => if l.length == P.cellsOf e && P.cellsOf t == m * l.length then some (List.replicate m l).flatten else none
      | none => none
    | some (.struct fs) => match fieldKinds (flatKinds P n) P 0 fs.toList with
      | some l => if P.cellsOf t == l.length then some l else none
      | none => none
    | _ => none
/-- a cell of a kind -/
def fit1 : Option IntKind → Value → Prop
  | none, v => ∃ b, v = .bool b
  | some k, v => ∃ n, v = .int k n ∧ (Lit.int k n).wf = true
/-- cells of such kinds -/
def Fits : List (Option IntKind) → List Value → Prop
  | [], [] => True
  | k :: ks, v :: vs => fit1 k v ∧ Fits ks vs
  | _, _ => False
theorem Fits.length : ∀ {ks : List (Option IntKind)} {cs : List Value}, Fits ks cs → cs.length = ks.length
  | [], [], _ => rfl
  | _ :: _, _ :: _, h => by simp [Fits.length h.2]
  | [], _ :: _, h => h.elim
  | _ :: _, [], h => h.elim
theorem Fits.cons {k : Option IntKind} {ks : List (Option IntKind)} {cs : List Value} (h : Fits (k :: ks) cs) : ∃ x r, cs = x :: r ∧ fit1 k x ∧ Fits ks r := by
  cases cs with
  | nil => exact h.elim
  | cons x r => exact ⟨x, r, rfl, h.1, h.2⟩
theorem Fits.nil {cs : List Value} (h : Fits [] cs) : cs = [] := by
  cases cs with
  | nil => rfl
  | cons x r => exact h.elim
theorem Fits.app : ∀ {ks ls : List (Option IntKind)} {cs ds : List Value}, Fits ks cs → Fits ls ds → Fits (ks ++ ls) (cs ++ ds)
  | [], _, [], _, _, h => h
  | _ :: _, _, _ :: _, _, h, k => ⟨h.1, Fits.app h.2 k⟩
  | [], _, _ :: _, _, h, _ => h.elim
  | _ :: _, _, [], _, h, _ => h.elim
theorem Fits.cut : ∀ {ks ls : List (Option IntKind)} {cs : List Value}, Fits (ks ++ ls) cs → Fits ks (cs.take ks.length) ∧ Fits ls (cs.drop ks.length)
  | [], _, _, h => ⟨trivial, h⟩
  | _ :: _, _, [], h => h.elim
  | _ :: _, _, _ :: _, h => ⟨⟨h.1, (Fits.cut h.2).1⟩, (Fits.cut h.2).2⟩
theorem Fits.rep {l : List (Option IntKind)} : ∀ {m : Nat} {cs : List Value}, Fits (List.replicate m l).flatten cs → ∀ i, i < m → Fits l ((cs.drop (i * l.length)).take l.length)
  | 0, _, _, i, hi => by omega
  | m + 1, cs, h, i, hi => by
    rw [List.replicate_succ, List.flatten_cons] at h
    cases i with
    | zero => simpa using h.cut.1
    | succ i =>
      have := Fits.rep h.cut.2 i (by omega)
      rw [List.drop_drop] at this
      rwa [show (i + 1) * l.length = l.length + i * l.length by rw [Nat.succ_mul]; omega]
theorem Fits.mkRep {l : List (Option IntKind)} : ∀ {cs : List (List Value)}, (∀ c ∈ cs, Fits l c) → Fits (List.replicate cs.length l).flatten cs.flatten
  | [], _ => trivial
  | c :: cs, h => by
    rw [List.length_cons, List.replicate_succ, List.flatten_cons, List.flatten_cons]
    exact Fits.app (h c (by simp)) (Fits.mkRep fun d hd => h d (by simp [hd]))

theorem mapM_some {α β : Type} {f : α → Option β} : ∀ {l : List α}, (∀ x ∈ l, ∃ y, f x = some y) → ∃ r, l.mapM f = some r
  | [], _ => ⟨[], rfl⟩
  | a :: l, h => by
    obtain ⟨y, hy⟩ := h a (by simp)
    obtain ⟨r, hr⟩ := mapM_some (l := l) fun x hx => h x (by simp [hx])
    exact ⟨y :: r, by rw [List.mapM_cons, hy, hr]; rfl⟩
theorem fields_lits {P : Program} {K : TypeId → Option (List (Option IntKind))} {n : Nat} (IH : ∀ t ks cs, K t = some ks → Fits ks cs → ∃ l, P.keyLits n t cs = some l) (cs : List Value) :
    ∀ (fs : List Field) (off : Nat) (ks : List (Option IntKind)), fieldKinds K P off fs = some ks → Fits ks (cs.drop off) → (∀ f ∈ fs, (f.name != "_") = true) ∧ ∀ f ∈ fs, ∃ l, P.keyLits n f.type ((cs.drop f.offset).take (P.cellsOf f.type)) = some l
  | [], _, _, _, _ => ⟨fun f hf => (by cases hf), fun f hf => (by cases hf)⟩
  | f :: fs, off, ks, h, hf => by
    unfold fieldKinds at h
    split at h
    · rename_i l hl
      split at h
      · rename_i hc
        simp only [Bool.and_eq_true, beq_iff_eq] at hc
        cases hr : fieldKinds K P (off + l.length) fs with
        | none => simp [hr] at h
        | some r =>
          simp only [hr, Option.map_some, Option.some.injEq] at h
          subst h
          have h1 := hf.cut
          rw [List.drop_drop] at h1
          obtain ⟨i1, i2⟩ := fields_lits IH cs fs _ r hr h1.2
          refine ⟨fun g hg => ?_, fun g hg => ?_⟩
          · rcases List.mem_cons.1 hg with rfl | hg
            · exact hc.1.1
            · exact i1 g hg
          · rcases List.mem_cons.1 hg with rfl | hg
            · rw [hc.1.2, ← hc.2]
              exact IH _ _ _ hl h1.1
            · exact i2 g hg
      · cases h
    · cases h
theorem flat_lits {P : Program} : ∀ (n : Nat) (t : TypeId) (ks : List (Option IntKind)) (cs : List Value), flatKinds P n t = some ks → Fits ks cs → ∃ l, P.keyLits n t cs = some l
  | 0, _, _, _, h, _ => by simp [flatKinds] at h
  | n + 1, t, ks, cs, h, hf => by
    have hlen := hf.length
    unfold flatKinds at h
    unfold Program.keyLits
    cases hu : P.underlying t with
    | none => simp [hu] at h
    | some d =>
      simp only [hu] at h
      cases d
      case bool =>
        simp only [Option.some.injEq] at h
        subst h
        match cs, hf with
        | [v], hf => obtain ⟨b, rfl⟩ := hf.1; exact ⟨_, rfl⟩
      case int k =>
        simp only [Option.some.injEq] at h
        subst h
        match cs, hf with
        | [v], hf => obtain ⟨m, rfl, hw⟩ := hf.1; exact ⟨[.int k m], by simp [hw]⟩
      case array m e =>
        simp only at h
        split at h
        · rename_i l hl
          split at h
          · rename_i hc
            simp only [Bool.and_eq_true, beq_iff_eq] at hc
            simp only [Option.some.injEq] at h
            subst h
            have e1 : cs.length = P.cellsOf t := by
              rw [hlen, hc.2, List.length_flatten]
              simp
            simp only [e1, if_true]
            obtain ⟨r, hr⟩ := mapM_some (f := fun i => P.keyLits n e ((cs.drop (i * P.cellsOf e)).take (P.cellsOf e))) (l := List.range m) fun i hi => by
              rw [← hc.1]
              exact flat_lits n e l _ hl (hf.rep i (List.mem_range.1 hi))
            exact ⟨r.flatten, by rw [hr]; rfl⟩
          · cases h
        · cases h
      case struct fs =>
        simp only at h
        split at h
        · rename_i l hl
          split at h
          · rename_i hc
            simp only [beq_iff_eq] at hc
            simp only [Option.some.injEq] at h
            subst h
            obtain ⟨i1, i2⟩ := fields_lits (fun t ks cs h1 h2 => flat_lits n t ks cs h1 h2) cs fs.toList 0 l hl (by simpa using hf)
            have e1 : cs.length = P.cellsOf t ∧ fs.all (·.name != "_") = true := ⟨by rw [hlen, hc], by
              rw [Array.all_eq_true_iff_forall_mem]
              intro f hf'
              exact i1 f (Array.mem_toList_iff.2 hf')⟩
            simp only [e1, and_self, if_true]
            obtain ⟨r, hr⟩ := mapM_some (f := fun f : Field => P.keyLits n f.type ((cs.drop f.offset).take (P.cellsOf f.type))) (l := fs.toList) i2
            exact ⟨r.flatten, by rw [hr]; rfl⟩
          · cases h
        · cases h
      all_goals (simp at h; done)

/-- what is to be known of a flat type -/
structure Flat (P : Program) (n : Nat) (t : TypeId) (ks : List (Option IntKind)) : Prop where
  kinds : flatKinds P n t = some ks
  key : P.keyTypeAt n t = true
  tiled : P.tiled n t = true
  guard : P.eqGuardType P.depth t = false
  deep : n ≤ 10000
  wide : (match P.underlying t with | some (.array _ _) | some (.struct _) => true | _ => false) = true
theorem Flat.equal {P : Program} {n : Nat} {t : TypeId} {ks : List (Option IntKind)} (F : Flat P n t ks) {xs ys : List Value} (hx : Fits ks xs) (hy : Fits ks ys) (b : Bool) (hb : b = true ↔ xs = ys) (w : World) :
    (Op.equal t (.agg xs.toArray) (.agg ys.toArray)).run P w = .ok b w := by
  obtain ⟨lx, h1⟩ := flat_lits n t ks xs F.kinds hx
  obtain ⟨ly, h2⟩ := flat_lits n t ks ys F.kinds hy
  have c1 := cells_of_lits n t F.tiled _ _ _ h1
  have c2 := cells_of_lits n t F.tiled _ _ _ h2
  have hl : ∀ {zs : List Value}, Fits ks zs → zs.length = P.cellsOf t := by
    intro zs hz
    obtain ⟨l, h⟩ := flat_lits n t ks zs F.kinds hz
    cases n with
    | zero => simp [Program.keyLits] at h
    | succ n =>
      unfold Program.keyLits at h
      have hw := F.wide
      split at hw
      · rename_i hu
        simp only [hu] at h
        split at h
        · assumption
        · cases h
      · rename_i hu
        simp only [hu] at h
        split at h
        · rename_i h'; exact h'.1
        · cases h
      · cases hw
  have formed : ∀ {zs : List Value}, Fits ks zs → (Value.agg zs.toArray).formed P t = true := by
    intro zs hz
    have hw := F.wide
    split at hw
    · rename_i hu; simp [Value.formed, hu, hl hz]
    · rename_i hu; simp [Value.formed, hu, hl hz]
    · cases hw
  obtain ⟨r, hr, hiff⟩ := run_equalIn_deep (P := P) (10000 - n) n t F.key w n n _ _ lx ly (formed hx) (formed hy) (by simpa [Value.cells] using h1) (by simpa [Value.cells] using h2)
  rw [show 10000 - n + n = 10000 by have := F.deep; omega] at hr
  have hrb : r = b := by
    rw [Bool.eq_iff_iff, hiff, hb]
    constructor
    · intro e; rw [c1, c2, e]
    · intro e
      subst e
      rw [h1] at h2
      exact Option.some.inj h2
  subst hrb
  exact hr
theorem Flat.eql {P : Program} {n : Nat} {t : TypeId} {ks : List (Option IntKind)} (F : Flat P n t ks) {xs ys : List Value} (hx : Fits ks xs) (hy : Fits ks ys) (b : Bool) (hb : b = true ↔ xs = ys) (w : World) :
    (binOp .eql t (.agg xs.toArray) (.agg ys.toArray)).run P w = .ok (.bool b) w := by
  simp only [binOp]
  simp [F.equal hx hy b hb w]
theorem Flat.neq {P : Program} {n : Nat} {t : TypeId} {ks : List (Option IntKind)} (F : Flat P n t ks) {xs ys : List Value} (hx : Fits ks xs) (hy : Fits ks ys) (b : Bool) (hb : b = true ↔ xs = ys) (w : World) :
    (binOp .neq t (.agg xs.toArray) (.agg ys.toArray)).run P w = .ok (.bool (!b)) w := by
  simp only [binOp]
  simp [F.equal hx hy b hb w]
theorem Flat.gd {P : Program} {n : Nat} {t : TypeId} {ks : List (Option IntKind)} (F : Flat P n t ks) (op : BinOp) (x y : Operand) (xs ys : Array Value) (w : World) : (eqGuard op t x y (.agg xs) (.agg ys)).run P w = .ok () w :=
  run_eqGuard_agg w op t x y xs ys F.guard
end Agg
end
section
/-
  WHAT AN ARGUMENT OF A FLAT TYPE (structs, arrays, of bools and integers) HOLDS: cells of its kinds. Over any program.
-/
namespace Agg
open Go Go.RowKit

theorem Fits.of_chunks {l : List (Option IntKind)} : ∀ {m : Nat} {cs : List Value}, cs.length = m * l.length → (∀ i, i < m → Fits l ((cs.drop (i * l.length)).take l.length)) → Fits (List.replicate m l).flatten cs
  | 0, cs, hl, _ => by
    have : cs = [] := List.eq_nil_of_length_eq_zero (by simpa using hl)
    subst this; exact trivial
  | m + 1, cs, hl, h => by
    rw [List.replicate_succ, List.flatten_cons, ← List.take_append_drop l.length cs]
    refine Fits.app (by simpa using h 0 (by omega)) (Fits.of_chunks ?_ fun i hi => ?_)
    · rw [List.length_drop, hl, Nat.succ_mul]; omega
    · have := h (i + 1) (by omega)
      rw [List.drop_drop]
      rwa [show l.length + i * l.length = (i + 1) * l.length by rw [Nat.succ_mul]; omega]
theorem fields_fits {P : Program} {K : TypeId → Option (List (Option IntKind))} (cs : List Value) :
    ∀ (fs : List Field) (off : Nat) (ks : List (Option IntKind)), fieldKinds K P off fs = some ks → cs.length = off + ks.length → (∀ f ∈ fs, ∀ l, K f.type = some l → Fits l ((cs.drop f.offset).take (P.cellsOf f.type))) → Fits ks (cs.drop off)
  | [], off, ks, h, hl, _ => by
    simp only [fieldKinds, Option.some.injEq] at h
    subst h
    rw [List.drop_eq_nil_of_le (by simpa using Nat.le_of_eq hl)]
    exact trivial
  | f :: fs, off, ks, h, hl, hf => by
    unfold fieldKinds at h
    split at h
    · rename_i l hk
      split at h
      · rename_i hc
        simp only [Bool.and_eq_true, beq_iff_eq] at hc
        cases hr : fieldKinds K P (off + l.length) fs with
        | none => simp [hr] at h
        | some r =>
          simp only [hr, Option.map_some, Option.some.injEq] at h
          subst h
          have h1 := hf f (by simp) l hk
          rw [hc.1.2, ← hc.2] at h1
          have h2 := fields_fits cs fs _ r hr (by rw [hl, List.length_append]; omega) (fun g hg => hf g (by simp [hg]))
          rw [← List.take_append_drop l.length (cs.drop off), List.drop_drop]
          exact Fits.app h1 h2
      · cases h
    · cases h
theorem good_fits {P : Program} {w : World} : ∀ (fuel n : Nat) (t : TypeId) (ks : List (Option IntKind)) (cs : List Value), flatKinds P n t = some ks → Good P w fuel t cs → Fits ks cs
  | 0, _, _, _, _, _, h => h.elim
  | _ + 1, 0, _, _, _, h, _ => by simp [flatKinds] at h
  | fuel + 1, n + 1, t, ks, cs, hk, h => by
    unfold flatKinds at hk
    unfold Good at h
    cases hu : P.underlying t with
    | none => simp [hu] at hk
    | some d =>
      simp only [hu] at hk h
      cases d
      case bool =>
        simp only [Option.some.injEq] at hk
        subst hk
        obtain ⟨b, rfl⟩ := h
        exact ⟨⟨b, rfl⟩, trivial⟩
      case int k =>
        simp only [Option.some.injEq] at hk
        subst hk
        obtain ⟨z, rfl, h0, h1⟩ := h
        exact ⟨⟨z, rfl, by simp [Lit.wf, h0, h1]⟩, trivial⟩
      case array m e =>
        simp only at hk
        split at hk
        · rename_i l hl
          split at hk
          · rename_i hc
            simp only [Bool.and_eq_true, beq_iff_eq] at hc
            simp only [Option.some.injEq] at hk
            subst hk
            refine Fits.of_chunks (by rw [h.1, hc.2]) fun i hi => ?_
            have := good_fits fuel n e l _ hl (h.2 i hi)
            rwa [← hc.1] at this
          · cases hk
        · cases hk
      case struct fs =>
        simp only at hk
        split at hk
        · rename_i l hl
          split at hk
          · rename_i hc
            simp only [beq_iff_eq] at hc
            simp only [Option.some.injEq] at hk
            subst hk
            have := fields_fits (P := P) (K := flatKinds P n) cs fs.toList 0 l hl (by rw [h.1, hc, Nat.zero_add]) fun f hf lf hlf => by
              obtain ⟨i, hi, rfl⟩ := List.mem_iff_getElem.1 hf
              have hi' : i < fs.size := by simpa using hi
              exact good_fits fuel n _ lf _ hlf (h.2 i _ (by simp [hi']))
            simpa using this
          · cases hk
        · cases hk
      all_goals (simp at hk; done)
end Agg
end
section
/-
  A SLICE THAT CAN BE READ AS DATA, whatever its elements are: their list. Over any program.
-/
namespace Agg
open Go Go.RowKit

theorem flatMap_get {α : Type} (enc : α → List Value) (sz : Nat) (henc : ∀ x, (enc x).length = sz) : ∀ (l : List α) (i : Nat) (u : Value), (l.flatMap enc)[i]? = some u → ∃ (k j : Nat) (x : α), l[k]? = some x ∧ j < sz ∧ i = k * sz + j ∧ (enc x)[j]? = some u
  | [], i, u, h => by simp at h
  | a :: l, i, u, h => by
    rw [List.flatMap_cons] at h
    by_cases hi : i < sz
    · rw [List.getElem?_append_left (by rw [henc]; exact hi)] at h
      exact ⟨0, i, a, rfl, hi, by omega, h⟩
    · rw [List.getElem?_append_right (by rw [henc]; omega), henc] at h
      obtain ⟨k, j, x, h1, h2, h3, h4⟩ := flatMap_get enc sz henc l _ u h
      exact ⟨k + 1, j, x, h1, h2, by rw [Nat.succ_mul]; omega, h4⟩
theorem flatMap_len {α : Type} (enc : α → List Value) (sz : Nat) (henc : ∀ x, (enc x).length = sz) (l : List α) : (l.flatMap enc).length = l.length * sz := by
  induction l with
  | nil => simp
  | cons a l ih => rw [List.flatMap_cons, List.length_append, henc, ih, List.length_cons, Nat.succ_mul]; omega
theorem good_sl {P : Program} {w : World} {t e : TypeId} (ht : P.underlying t = some (.slice e)) {sz : Nat} (hc : P.cellsOf e = sz) {α : Type} (enc : α → List Value) (ok : α → Prop) (henc : ∀ x, (enc x).length = sz)
    (hopen : ∀ (fuel : Nat) (cs : List Value), Good P w fuel e cs → ∃ x, cs = enc x ∧ ok x) {fuel : Nat} {v : Value} (h : Good P w fuel t [v]) : ∃ l : List α, SlR w v sz l.length (l.flatMap enc) ∧ (∀ x ∈ l, ok x) ∧ l.length ≤ maxLen := by
  cases fuel with
  | zero => exact h.elim
  | succ n =>
    unfold Good at h
    rw [ht] at h
    rcases h with h | ⟨a, len, cap, h, hl, hm, hcs⟩
    · simp only [List.cons.injEq, and_true] at h
      subst h
      exact ⟨[], SlR.nil _ _, (fun x hx => by cases hx), Nat.zero_le _⟩
    · simp only [List.cons.injEq, and_true] at h
      subst h
      have key : ∀ i, i < len → ∃ x : α, ok x ∧ ∀ j, j < sz → w.cell? (a.add (i * sz + j)) = (enc x)[j]? := by
        intro i hi
        obtain ⟨cs', hcl, hat, hg⟩ := hcs i hi
        obtain ⟨x, rfl, hok⟩ := hopen n cs' hg
        rw [hc] at hat
        exact ⟨x, hok, hat⟩
      rcases Nat.eq_zero_or_pos len with h0 | h0
      · subst h0
        exact ⟨[], ⟨by simp, .inr ⟨a, cap, rfl, hl, hm, (fun i u hu => by simp at hu)⟩⟩, (fun x hx => by cases hx), Nat.zero_le _⟩
      · obtain ⟨x0, hx0, _⟩ := key 0 h0
        have hch : ∃ f : Nat → α, ∀ i, i < len → ok (f i) ∧ ∀ j, j < sz → w.cell? (a.add (i * sz + j)) = (enc (f i))[j]? :=
          ⟨fun i => if h : i < len then Classical.choose (key i h) else x0, fun i hi => by simp only [hi, dif_pos]; exact Classical.choose_spec (key i hi)⟩
        obtain ⟨f, hf⟩ := hch
        refine ⟨(List.range len).map f, ⟨by rw [flatMap_len enc sz henc], .inr ⟨a, cap, by simp, by simpa using hl, hm, fun i u hu => ?_⟩⟩, fun x hx => ?_, by simp; omega⟩
        · obtain ⟨k, j, x, h1, h2, rfl, h4⟩ := flatMap_get enc sz henc _ _ _ hu
          have hk : k < len := by have := (List.getElem?_eq_some_iff.1 h1).1; simpa using this
          rw [List.getElem?_map, List.getElem?_range hk] at h1
          simp only [Option.map_some, Option.some.injEq] at h1
          subst h1
          rw [(hf k hk).2 j h2]; exact h4
        · obtain ⟨i, hi, rfl⟩ := List.mem_map.1 hx
          exact (hf i (List.mem_range.1 hi)).1
/-- nothing that was at W is changed; kept over calls -/
def From (W w : World) : Prop := Below W.heap.size W w
theorem From.keep {W w w' : World} (h : From W w) (hb : Below w.heap.size w w') : From W w' := by
  have h' : Below W.heap.size W w := h
  exact h'.trans (hb.mono h'.size)
end Agg
end
section
/-
  DEVICES, in plain Lean; which pages there are.
-/
namespace Dv
open Go Go.RowKit Agg Pg

/-- a device: its pages, what waits for them, its fuse, whether its power is off -/
structure Dev where
  pages : List (List Sec)
  cache : List (Int × List Sec)
  fuse : Int
  off : Bool
def wrC (x : Int × List Sec) : List Value := .int .i64 x.1 :: blkC x.2
/-- pages in memory; writes in memory -/
abbrev Pgs (w : World) (v : Value) (l : List (List Sec)) : Prop := SlR w v 132 l.length (l.flatMap blkC)
abbrev Wrs (w : World) (v : Value) (l : List (Int × List Sec)) : Prop := SlR w v 133 l.length (l.flatMap wrC)
theorem wrC_length (x : Int × List Sec) (h : BOk x.2) : (wrC x).length = 133 := by rw [wrC, List.length_cons, bok_cells h]
/-- all blocks are whole -/
def DOk (d : Dev) : Prop := (∀ b ∈ d.pages, BOk b) ∧ (∀ x ∈ d.cache, BOk x.2)
def thereB (n : Nat) (k : Int) : Bool := decide (0 ≤ k) && decide (k < n)
/-- which devices may be -/
def rightD (d : Dev) : Bool := decide (24 ≤ d.pages.length) && decide (d.pages.length ≤ 256) && decide (-1 ≤ d.fuse) && decide (d.fuse ≤ 10000) && (!d.off || decide (d.fuse = -1)) && d.cache.all fun x => thereB d.pages.length x.1
end Dv
namespace Go.Proofs.Ytgfmpkcgkjpgnaa
open Go.ChangeShapes Go.WideShapes Go.ChangeAt Go.RowKit Agg Pg Dv

theorem fo_fo_Dev_0 : Agg.fieldOff Try.prog 46 0 = some 0 := by kernel_rfl
theorem fo_fo_Dev_1 : Agg.fieldOff Try.prog 46 1 = some 1 := by kernel_rfl
theorem fo_fo_Dev_2 : Agg.fieldOff Try.prog 46 2 = some 2 := by kernel_rfl
theorem fo_fo_Dev_3 : Agg.fieldOff Try.prog 46 3 = some 3 := by kernel_rfl
set_option maxHeartbeats 1000000 in
theorem there_any (x y : Option Addr) (n cap m cm : Nat) (z : Int) (q : Bool) (k : Int) (w : World) (hn : (n : Int) ≤ 9223372036854775807) (r : Bool) (hr : thereB n k = r) :
    Calls Try.prog 57 #[.agg #[.slice x n cap, .slice y m cm, .int .i64 z, .bool q], .int .i64 k] w fun e w' => e = .returned (.bool r) ∧ Below w.heap.size w w' := by
  have HR := Lib.hid hr
  clear hr
  have HB := Lib.hid (Below.refl w.heap.size w)
  go_enter Try.func57, Try.ntmps57
  by_cases h1 : k ≥ 0
  · by_cases h2 : k < n
    · have hr2 : r = true := by rw [← HR.out]; simp [thereB, h1, h2]
      subst hr2
      go_wp2_with fail
      go_ret
      exact ⟨rfl, bel_alloc HB.out _⟩
    · have hr2 : r = false := by rw [← HR.out]; simp only [thereB, Bool.and_eq_false_iff, decide_eq_false_iff_not]; omega
      subst hr2
      go_wp2_with fail
      go_ret
      exact ⟨rfl, bel_alloc HB.out _⟩
  · have hr2 : r = false := by rw [← HR.out]; simp only [thereB, Bool.and_eq_false_iff, decide_eq_false_iff_not]; omega
    subst hr2
    go_wp2_with fail
    go_ret
    exact ⟨rfl, bel_alloc HB.out _⟩
set_option maxHeartbeats 1000000 in
theorem rThere_any (x y : Option Addr) (n cap m cm : Nat) (z : Int) (q : Bool) (k : Int) (w : World) (hn : (n : Int) ≤ 9223372036854775807) (r : Bool) (hr : thereB n k = r) :
    Calls Try.prog 41 #[.agg #[.slice x n cap, .slice y m cm, .int .i64 z, .bool q], .int .i64 k] w fun e w' => e = .returned (.bool r) ∧ Below w.heap.size w w' := by
  have HR := Lib.hid hr
  clear hr
  have HB := Lib.hid (Below.refl w.heap.size w)
  go_enter Try.func41, Try.ntmps41
  by_cases h1 : k ≥ 0
  · by_cases h2 : k < n
    · have hr2 : r = true := by rw [← HR.out]; simp [thereB, h1, h2]
      subst hr2
      go_wp2_with fail
      go_ret
      exact ⟨rfl, bel_alloc HB.out _⟩
    · have hr2 : r = false := by rw [← HR.out]; simp only [thereB, Bool.and_eq_false_iff, decide_eq_false_iff_not]; omega
      subst hr2
      go_wp2_with fail
      go_ret
      exact ⟨rfl, bel_alloc HB.out _⟩
  · have hr2 : r = false := by rw [← HR.out]; simp only [thereB, Bool.and_eq_false_iff, decide_eq_false_iff_not]; omega
    subst hr2
    go_wp2_with fail
    go_ret
    exact ⟨rfl, bel_alloc HB.out _⟩
end Go.Proofs.Ytgfmpkcgkjpgnaa
end
