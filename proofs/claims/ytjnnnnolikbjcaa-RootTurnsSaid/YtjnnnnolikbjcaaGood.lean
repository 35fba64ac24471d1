/-
  BLOCKS, in plain Lean: their cells (the head of XPg1, for other seats); rows of things of one size.
-/
import Derived.OpenShut
import Derived.ShutString
import Derived.ChangeOld
import Derived.Deep.Slices
import Derived.DeepKeys2
import Derived.Laws.StructEq
import Derived.Test.YtjnnnnolikbjcaaRow
import Derived.Test.YtjnnnnolikbjcaaAgg
section
namespace Pg
open Go Go.RowKit Agg

/-- a sector: its stamp, its bytes -/
abbrev Sec := Nat × List UInt8
def secC (s : Sec) : List Value := .int .u64 (s.1 : Int) :: bv s.2
def blkC (b : List Sec) : List Value := b.flatMap secC
def Len32 (b : List Sec) : Prop := ∀ s ∈ b, s.2.length = 32
def BOk (b : List Sec) : Prop := b.length = 4 ∧ ∀ s ∈ b, s.2.length = 32 ∧ s.1 < 18446744073709551616
theorem BOk.len {b : List Sec} (h : BOk b) : Len32 b := fun s hs => (h.2 s hs).1
theorem secC_length (s : Sec) (h : s.2.length = 32) : (secC s).length = 33 := by simp [secC, bv_length, h]
theorem blkC_cons (s : Sec) (b : List Sec) : blkC (s :: b) = secC s ++ blkC b := rfl
theorem blkC_append (a b : List Sec) : blkC (a ++ b) = blkC a ++ blkC b := List.flatMap_append
theorem blkC_length (b : List Sec) (h : Len32 b) : (blkC b).length = b.length * 33 := by
  induction b with
  | nil => rfl
  | cons s r ih =>
    rw [blkC_cons, List.length_append, secC_length s (h s (by simp)), ih (fun x hx => h x (by simp [hx])), List.length_cons]; omega
theorem blkC_one (b : List Sec) : ∀ u ∈ blkC b, u.oneCell' = true := by
  intro u hu
  obtain ⟨s, _, hs⟩ := List.mem_flatMap.1 hu
  rcases List.mem_cons.1 hs with rfl | h
  · rfl
  · exact bv_one _ u h
theorem secC_one (s : Sec) : ∀ u ∈ secC s, u.oneCell' = true := by
  intro u hu
  rcases List.mem_cons.1 hu with rfl | h
  · rfl
  · exact bv_one _ u h
/-- a block, cut at a sector -/
theorem cut_at (b : List Sec) (k : Nat) (h : k < b.length) : b = b.take k ++ (b[k] :: b.drop (k + 1)) := by
  rw [List.getElem_cons_drop]; exact (List.take_append_drop k b).symm
theorem take_len (b : List Sec) (hl : Len32 b) (k : Nat) (h : k ≤ b.length) : (blkC (b.take k)).length = k * 33 := by
  rw [blkC_length _ (fun s hs => hl s (List.mem_of_mem_take hs)), List.length_take]
  congr 1; omega
theorem blkC_sec (b : List Sec) (hl : Len32 b) (k : Nat) (h : k < b.length) (r : List Value) : ((blkC b ++ r).drop (k * 33)).take 33 = secC b[k] := by
  have e : blkC b = blkC (b.take k) ++ (secC b[k] ++ blkC (b.drop (k + 1))) := by
    conv => lhs; rw [cut_at b k h]
    rw [blkC_append, blkC_cons]
  rw [e, List.append_assoc, List.drop_left' (take_len b hl k (by omega)), List.append_assoc, List.take_left' (secC_length _ (hl _ (List.getElem_mem h)))]
theorem blkC_cell (b : List Sec) (hl : Len32 b) (k : Nat) (h : k < b.length) (r : List Value) (j : Nat) (hj : j < 33) : (blkC b ++ r)[k * 33 + j]? = (secC b[k])[j]? := by
  rw [← blkC_sec b hl k h r, List.getElem?_take_of_lt hj, List.getElem?_drop]
theorem blkC_stamp (b : List Sec) (hl : Len32 b) (k : Nat) (h : k < b.length) (r : List Value) : (blkC b ++ r)[k * 33]? = some (.int .u64 (b[k].1 : Int)) := blkC_cell b hl k h r 0 (by omega)
theorem blkC_byte (b : List Sec) (hl : Len32 b) (k : Nat) (h : k < b.length) (r : List Value) (j : Nat) (hj : j < b[k].2.length) : (blkC b ++ r)[k * 33 + (1 + j)]? = some (.int .u8 (b[k].2[j].toNat : Int)) := by
  have := hl _ (List.getElem_mem h)
  rw [blkC_cell b hl k h r (1 + j) (by omega), show 1 + j = j + 1 by omega]
  exact bv_get _ _ hj
theorem blkC_set (b : List Sec) (hl : Len32 b) (k : Nat) (h : k < b.length) (s : Sec) (hs : s.2.length = 32) (r : List Value) : spliced (blkC b ++ r) (k * 33) (secC s) = blkC (b.set k s) ++ r := by
  have e : blkC b ++ r = blkC (b.take k) ++ secC b[k] ++ (blkC (b.drop (k + 1)) ++ r) := by
    conv => lhs; rw [cut_at b k h]
    rw [blkC_append, blkC_cons]; simp only [List.append_assoc]
  have e2 : b.set k s = b.take k ++ (s :: b.drop (k + 1)) := by rw [List.set_eq_take_append_cons_drop, if_pos h]
  rw [e, spliced_mid _ _ _ _ _ (take_len b hl k (by omega)) (by rw [secC_length _ hs, secC_length _ (hl _ (List.getElem_mem h))]), e2, blkC_append, blkC_cons]
  simp only [List.append_assoc]
theorem blkC_put (b : List Sec) (hl : Len32 b) (k : Nat) (h : k < b.length) (d : List UInt8) (hd : d.length = 32) (r : List Value) : spliced (blkC b ++ r) (k * 33 + 1) (bv d) = blkC (b.set k (b[k].1, d)) ++ r := by
  have e : blkC b ++ r = (blkC (b.take k) ++ [.int .u64 (b[k].1 : Int)]) ++ bv b[k].2 ++ (blkC (b.drop (k + 1)) ++ r) := by
    conv => lhs; rw [cut_at b k h]
    rw [blkC_append, blkC_cons, secC]; simp only [List.append_assoc, List.cons_append, List.nil_append]
  have e2 : b.set k (b[k].1, d) = b.take k ++ ((b[k].1, d) :: b.drop (k + 1)) := by rw [List.set_eq_take_append_cons_drop, if_pos h]
  rw [e, spliced_mid _ _ _ _ _ (by rw [List.length_append, take_len b hl k (by omega)]; rfl) (by rw [bv_length, bv_length, hd, hl _ (List.getElem_mem h)]), e2, blkC_append, blkC_cons, secC]
  simp only [List.append_assoc, List.cons_append, List.nil_append]
theorem blkC_stamped (b : List Sec) (hl : Len32 b) (k : Nat) (h : k < b.length) (n : Nat) (r : List Value) : spliced (blkC b ++ r) (k * 33) [.int .u64 (n : Int)] = blkC (b.set k (n, b[k].2)) ++ r := by
  have e : blkC b ++ r = blkC (b.take k) ++ [.int .u64 (b[k].1 : Int)] ++ (bv b[k].2 ++ (blkC (b.drop (k + 1)) ++ r)) := by
    conv => lhs; rw [cut_at b k h]
    rw [blkC_append, blkC_cons, secC]; simp only [List.append_assoc, List.cons_append, List.nil_append]
  have e2 : b.set k (n, b[k].2) = b.take k ++ ((n, b[k].2) :: b.drop (k + 1)) := by rw [List.set_eq_take_append_cons_drop, if_pos h]
  rw [e, spliced_mid (blkC (b.take k)) [.int .u64 (b[k].1 : Int)] (bv b[k].2 ++ (blkC (b.drop (k + 1)) ++ r)) [.int .u64 (n : Int)] (k * 33) (take_len b hl k (by omega)) rfl, e2, blkC_append, blkC_cons, secC]
  simp only [List.append_assoc, List.cons_append, List.nil_append]
theorem set_len {b : List Sec} (hl : Len32 b) (k : Nat) (s : Sec) (hs : s.2.length = 32) : Len32 (b.set k s) := by
  intro x hx
  rcases List.mem_or_eq_of_mem_set hx with h | h
  · exact hl x h
  · rw [h]; exact hs

def zeroB : List Sec := List.replicate 4 (0, List.replicate 32 0)
theorem zeroB_bok : BOk zeroB := ⟨rfl, fun s hs => by
  obtain rfl := List.eq_of_mem_replicate hs
  exact ⟨by simp, by decide⟩⟩
theorem bok_cells {b : List Sec} (h : BOk b) : (blkC b).length = 132 := by rw [blkC_length b h.len, h.1]
theorem zero132 : (blkC zeroB).length = 132 := bok_cells zeroB_bok
/-- rows of things of one size -/
theorem flat_len {α : Type} (f : α → List Value) (m : Nat) (l : List α) (hl : ∀ x ∈ l, (f x).length = m) : (l.flatMap f).length = l.length * m := by
  induction l with
  | nil => simp
  | cons a r ih =>
    rw [List.flatMap_cons, List.length_append, hl a (by simp), ih (fun x hx => hl x (by simp [hx])), List.length_cons, Nat.succ_mul]; omega
theorem flat_cells {α : Type} (f : α → List Value) (m : Nat) {l : List α} (hl : ∀ x ∈ l, (f x).length = m) (k : Nat) (h : k < l.length) (i : Nat) (v : Value) (hv : (f l[k])[i]? = some v) : (l.flatMap f)[k * m + i]? = some v := by
  induction l generalizing k with
  | nil => simp at h
  | cons a r ih =>
    have ha := hl a (by simp)
    rw [List.flatMap_cons]
    cases k with
    | zero =>
      have : i < (f a).length := (List.getElem?_eq_some_iff.1 hv).1
      rw [List.getElem?_append_left (by omega)]
      simpa using hv
    | succ k =>
      rw [List.getElem?_append_right (by rw [ha, Nat.succ_mul]; omega), ha, show (k + 1) * m + i - m = k * m + i by rw [Nat.succ_mul]; omega]
      exact ih (fun x hx => hl x (by simp [hx])) k (by simpa using h) hv
theorem flat_at {α : Type} (f : α → List Value) (m : Nat) (hm : 0 < m) {w : World} {b o n cap : Nat} {l : List α} (h : SlR w (.slice (some ⟨b, o, none⟩) n cap) m l.length (l.flatMap f)) (hl : ∀ x ∈ l, (f x).length = m) {k : Nat} (hk : k < l.length) (i : Nat) (v : Value) (hv : (f l[k])[i]? = some v) : w.cell? ⟨b, o + (k : Int).toNat * m + i, none⟩ = some v := by
  obtain ⟨b', o', cap', hv', _, _, hc, _⟩ := SlR.pos h hm (by omega)
  simp only [Value.slice.injEq, Option.some.injEq, Addr.mk.injEq, and_true] at hv'
  obtain ⟨⟨rfl, rfl⟩, _⟩ := hv'
  have := hc (k * m + i) _ (flat_cells f m hl k hk i v hv)
  rw [Int.toNat_natCast, Nat.add_assoc]; exact this
end Pg
end
section
/-
  WHAT AN ARGUMENT THAT CAN BE READ AS DATA HOLDS, cell by cell, whatever its type (of bools, integers, strings, structs, arrays, slices). Over any program.
-/
namespace Agg
open Go Go.RowKit Go.ChangeShapes Go.WideShapes Go.Deep

theorem okWide_array {P : Program} {w : World} {r : Reach} {base : Nat} {t : TypeId} {v : Value} {n : Nat} {e : TypeId} (ht : P.underlying t = some (.array n e)) (h : Value.okWide P w r base t v) : ∃ cs, v = .agg cs ∧ cs.size = P.cellsOf t := by
  simp only [Value.okWide, ht] at h
  obtain ⟨cs, h1, h2, _⟩ := h
  exact ⟨cs, h1, h2⟩
def Good (P : Program) (w : World) : Nat → TypeId → List Value → Prop
  | 0, _, _ => False
  | n + 1, t, cs =>
    match P.underlying t with
    | some .bool => ∃ b, cs = [.bool b]
    | some (.int k) => ∃ z : Int, cs = [.int k z] ∧ k.min ≤ z ∧ z ≤ k.max
    | some .string => ∃ s : ByteArray, cs = [.string s] ∧ s.size ≤ maxLen
    | some (.struct fs) => cs.length = P.cellsOf t ∧ ∀ (i : Nat) (f : Field), fs[i]? = some f → Good P w n f.type ((cs.drop f.offset).take (P.cellsOf f.type))
    | some (.array m e) => cs.length = P.cellsOf t ∧ ∀ i : Nat, i < m → Good P w n e ((cs.drop (i * P.cellsOf e)).take (P.cellsOf e))
    | some (.slice e) => cs = [.slice none 0 0] ∨ ∃ (a : Addr) (len cap : Nat), cs = [.slice (some a) len cap] ∧ len ≤ cap ∧ cap ≤ maxLen ∧
        ∀ i : Nat, i < len → ∃ cs' : List Value, cs'.length = P.cellsOf e ∧ (∀ j : Nat, j < P.cellsOf e → w.cell? (a.add (i * P.cellsOf e + j)) = cs'[j]?) ∧ Good P w n e cs'
    | _ => True

theorem good_of_trod {H : Type} {enc : TypeId × Value → H} {P : Program} {w : World} {base : Nat} {spare : Nat → Bool} {held : Bool} : ∀ (fuel : Nat) (t : TypeId) (cs : List Value) (x : DataW H × List MemPlace),
    DataW.trod enc P w base spare held fuel t cs = some x → Good P w fuel t cs
  | 0, _, _, _, h => by simp [DataW.trod] at h
  | n + 1, t, cs, x, h => by
    unfold Good
    split
    · rename_i ht; obtain ⟨b, hb, _⟩ := DataW.trod_bool ht h; exact ⟨b, hb⟩
    · rename_i k ht
      obtain ⟨z, hz, _, hw⟩ := DataW.trod_int ht h
      simp only [Lit.wf, Bool.and_eq_true, decide_eq_true_eq] at hw
      exact ⟨z, hz, hw⟩
    · rename_i ht; obtain ⟨s, hs, _, hm⟩ := DataW.trod_string ht h; exact ⟨s, hs, hm⟩
    · rename_i fs ht
      obtain ⟨xs, m, hm, _, hl, hxl, hf⟩ := DataW.trod_struct ht h
      obtain rfl : n = m := by omega
      refine ⟨hl, fun i f hi => ?_⟩
      have h1 := hf i f hi
      have hlt : i < xs.length := by rw [hxl]; exact (Array.getElem?_eq_some_iff.1 hi).1
      rw [List.getElem?_eq_getElem hlt] at h1
      exact good_of_trod n _ _ _ h1
    · rename_i m e ht
      obtain ⟨xs, m', hm, _, hl, hxl, hf⟩ := DataW.trod_array ht h
      obtain rfl : n = m' := by omega
      refine ⟨hl, fun i hi => ?_⟩
      have h1 := hf i hi
      have hlt : i < xs.length := by omega
      rw [List.getElem?_eq_getElem hlt] at h1
      exact good_of_trod n _ _ _ h1
    · rename_i e ht
      rcases DataW.trod_slice ht h with ⟨h0, _⟩ | ⟨a, len, cap, elems, rest, m, hm, hcs, _, _, hl, hcm, hlen, hel, _⟩
      · exact .inl h0
      · obtain rfl : n = m := by omega
        refine .inr ⟨a, len, cap, hcs, hl, hcm, fun i hi => ?_⟩
        have h1 := hel i hi
        rw [List.getElem?_eq_getElem (by omega)] at h1
        obtain ⟨cs', hc, ht'⟩ := Option.bind_eq_some_iff.1 h1
        obtain ⟨_, hcl, hat⟩ := World.cells?_some hc
        exact ⟨cs', hcl, fun j hj => by rw [← hat j hj, Go.Deep.add_add], good_of_trod n _ _ _ ht'⟩
    · trivial

/-- a slice of bytes that can be read -/
theorem good_bytes {P : Program} {w : World} {t e : TypeId} (ht : P.underlying t = some (.slice e)) (he : P.underlying e = some (.int .u8)) (hc : P.cellsOf e = 1) {fuel : Nat} {v : Value} (h : Good P w fuel t [v]) :
    ∃ l : List UInt8, Bytes w v l ∧ l.length ≤ maxLen := by
  cases fuel with
  | zero => exact h.elim
  | succ n =>
    unfold Good at h
    rw [ht] at h
    rcases h with h | ⟨a, len, cap, h, hl, hm, hcs⟩
    · simp only [List.cons.injEq, and_true] at h
      subst h
      exact ⟨[], SlR.nil _ _, Nat.zero_le _⟩
    · simp only [List.cons.injEq, and_true] at h
      subst h
      have key : ∀ i, i < len → ∃ c : UInt8, w.cell? (a.add i) = some (.int .u8 (c.toNat : Int)) := by
        intro i hi
        obtain ⟨cs', hcl, hat, hg⟩ := hcs i hi
        cases n with
        | zero => exact hg.elim
        | succ n =>
          unfold Good at hg
          rw [he] at hg
          obtain ⟨z, rfl, h0, h1⟩ := hg
          have := hat 0 (by omega)
          rw [hc, Nat.mul_one, Nat.add_zero] at this
          simp only [IntKind.min, IntKind.max, IntKind.signed, IntKind.bits] at h0 h1
          have h0' : 0 ≤ z := by simpa using h0
          have h1' : z ≤ 255 := by simpa using h1
          refine ⟨UInt8.ofNat z.toNat, ?_⟩
          rw [this]
          simp only [List.getElem?_cons_zero]
          congr 2
          rw [UInt8.toNat_ofNat']; omega
      have hch : ∃ f : Nat → UInt8, ∀ i, i < len → w.cell? (a.add i) = some (.int .u8 ((f i).toNat : Int)) :=
        ⟨fun i => if h : i < len then Classical.choose (key i h) else 0, fun i hi => by simp only [hi, dif_pos]; exact Classical.choose_spec (key i hi)⟩
      obtain ⟨f, hf⟩ := hch
      refine ⟨(List.range len).map f, ⟨by simp [bv_length], .inr ⟨a, cap, by simp, by simpa using hl, hm, fun i u hu => ?_⟩⟩, by simp; omega⟩
      have hi : i < len := by
        have := (List.getElem?_eq_some_iff.1 hu).1
        simpa [bv] using this
      rw [bv_get _ _ (by simpa using hi)] at hu
      simp only [List.getElem_map, List.getElem_range, Option.some.injEq] at hu
      subst hu
      exact hf i hi
/-- rows of bytes that can be read -/
theorem good_rows {P : Program} {w : World} {t s e : TypeId} (ht : P.underlying t = some (.slice s)) (hs : P.underlying s = some (.slice e)) (he : P.underlying e = some (.int .u8)) (hcs : P.cellsOf s = 1) (hc : P.cellsOf e = 1) {fuel : Nat} {v : Value} (h : Good P w fuel t [v]) :
    ∃ ls : List (List UInt8), Rows2 w v ls ∧ ∀ l ∈ ls, l.length ≤ maxLen := by
  cases fuel with
  | zero => exact h.elim
  | succ n =>
    unfold Good at h
    rw [ht] at h
    rcases h with h | ⟨a, len, cap, h, hl, hm, hel⟩
    · simp only [List.cons.injEq, and_true] at h
      subst h
      exact ⟨[], ⟨[], SlR.nil _ _, fun i l hl => by simp at hl⟩, fun l hl => by cases hl⟩
    · simp only [List.cons.injEq, and_true] at h
      subst h
      have key : ∀ i, i < len → ∃ x : Value × List UInt8, w.cell? (a.add i) = some x.1 ∧ Bytes w x.1 x.2 ∧ x.2.length ≤ maxLen := by
        intro i hi
        obtain ⟨cs', hcl, hat, hg⟩ := hel i hi
        rw [hcs] at hcl
        match cs', hcl with
        | [u], _ =>
          obtain ⟨l, hb, hlm⟩ := good_bytes hs he hc hg
          have := hat 0 (by omega)
          rw [hcs, Nat.mul_one, Nat.add_zero] at this
          exact ⟨(u, l), this, hb, hlm⟩
      have hch : ∃ f : Nat → Value × List UInt8, ∀ i, i < len → w.cell? (a.add i) = some (f i).1 ∧ Bytes w (f i).1 (f i).2 ∧ (f i).2.length ≤ maxLen :=
        ⟨fun i => if h : i < len then Classical.choose (key i h) else (.nilFunc, []), fun i hi => by simp only [hi, dif_pos]; exact Classical.choose_spec (key i hi)⟩
      obtain ⟨f, hf⟩ := hch
      refine ⟨(List.range len).map fun i => (f i).2, ⟨(List.range len).map fun i => (f i).1, ⟨by simp, .inr ⟨a, cap, by simp, by simpa using hl, hm, fun i u hu => ?_⟩⟩, fun i l hl' => ?_⟩, fun l hl' => ?_⟩
      · have hi : i < len := by have := (List.getElem?_eq_some_iff.1 hu).1; simpa using this
        simp only [List.getElem?_map, List.getElem?_range hi, Option.map_some, Option.some.injEq] at hu
        subst hu
        exact (hf i hi).1
      · have hi : i < len := by have := (List.getElem?_eq_some_iff.1 hl').1; simpa using this
        simp only [List.getElem?_map, List.getElem?_range hi, Option.map_some, Option.some.injEq] at hl' ⊢
        subst hl'
        exact ⟨_, rfl, (hf i hi).2.1⟩
      · obtain ⟨i, hi, rfl⟩ := List.mem_map.1 hl'
        exact (hf i (List.mem_range.1 hi)).2.2
end Agg
end
section
/-
  EQUALITY OF WHOLE ROWS OF CELLS (structs, arrays, of bools and integers), over any program.
-/
namespace Agg
open Go Go.RowKit

/-- the kinds of a flat type's cells, in order (none: a bool) -/
def fieldKinds (K : TypeId → Option (List (Option IntKind))) (P : Program) : Nat → List Field → Option (List (Option IntKind))
  | _, [] => some []
  | off, f :: fs => match K f.type with
    | some l => if f.name != "_" && f.offset == off && l.length == P.cellsOf f.type then (fieldKinds K P (off + l.length) fs).map (l ++ ·) else none
    | none => none
def flatKinds (P : Program) : Nat → TypeId → Option (List (Option IntKind))
  | 0, _ => none
  | n + 1, t => match P.underlying t with
    | some .bool => some [none]
    | some (.int k) => some [some k]
    | some (.array m e) => match flatKinds P n e with
      | some l => if l.length == P.cellsOf e && P.cellsOf t == m * l.length then some (List.replicate m l).flatten else none
      | none => none
    | some (.struct fs) => match fieldKinds (flatKinds P n) P 0 fs.toList with
      | some l => if P.cellsOf t == l.length then some l else none
      | none => none
    | _ => none
/-- a cell of a kind -/
def fit1 : Option IntKind → Value → Prop
  | none, v => ∃ b, v = .bool b
  | some k, v => ∃ n, v = .int k n ∧ (Lit.int k n).wf = true
/-- cells of such kinds -/
def Fits : List (Option IntKind) → List Value → Prop
  | [], [] => True
  | k :: ks, v :: vs => fit1 k v ∧ Fits ks vs
  | _, _ => False
theorem Fits.length : ∀ {ks : List (Option IntKind)} {cs : List Value}, Fits ks cs → cs.length = ks.length
  | [], [], _ => rfl
  | _ :: _, _ :: _, h => by simp [Fits.length h.2]
  | [], _ :: _, h => h.elim
  | _ :: _, [], h => h.elim
theorem Fits.cons {k : Option IntKind} {ks : List (Option IntKind)} {cs : List Value} (h : Fits (k :: ks) cs) : ∃ x r, cs = x :: r ∧ fit1 k x ∧ Fits ks r := by
  cases cs with
  | nil => exact h.elim
  | cons x r => exact ⟨x, r, rfl, h.1, h.2⟩
theorem Fits.nil {cs : List Value} (h : Fits [] cs) : cs = [] := by
  cases cs with
  | nil => rfl
  | cons x r => exact h.elim
theorem Fits.app : ∀ {ks ls : List (Option IntKind)} {cs ds : List Value}, Fits ks cs → Fits ls ds → Fits (ks ++ ls) (cs ++ ds)
  | [], _, [], _, _, h => h
  | _ :: _, _, _ :: _, _, h, k => ⟨h.1, Fits.app h.2 k⟩
  | [], _, _ :: _, _, h, _ => h.elim
  | _ :: _, _, [], _, h, _ => h.elim
theorem Fits.cut : ∀ {ks ls : List (Option IntKind)} {cs : List Value}, Fits (ks ++ ls) cs → Fits ks (cs.take ks.length) ∧ Fits ls (cs.drop ks.length)
  | [], _, _, h => ⟨trivial, h⟩
  | _ :: _, _, [], h => h.elim
  | _ :: _, _, _ :: _, h => ⟨⟨h.1, (Fits.cut h.2).1⟩, (Fits.cut h.2).2⟩
theorem Fits.rep {l : List (Option IntKind)} : ∀ {m : Nat} {cs : List Value}, Fits (List.replicate m l).flatten cs → ∀ i, i < m → Fits l ((cs.drop (i * l.length)).take l.length)
  | 0, _, _, i, hi => by omega
  | m + 1, cs, h, i, hi => by
    rw [List.replicate_succ, List.flatten_cons] at h
    cases i with
    | zero => simpa using h.cut.1
    | succ i =>
      have := Fits.rep h.cut.2 i (by omega)
      rw [List.drop_drop] at this
      rwa [show (i + 1) * l.length = l.length + i * l.length by rw [Nat.succ_mul]; omega]
theorem Fits.mkRep {l : List (Option IntKind)} : ∀ {cs : List (List Value)}, (∀ c ∈ cs, Fits l c) → Fits (List.replicate cs.length l).flatten cs.flatten
  | [], _ => trivial
  | c :: cs, h => by
    rw [List.length_cons, List.replicate_succ, List.flatten_cons, List.flatten_cons]
    exact Fits.app (h c (by simp)) (Fits.mkRep fun d hd => h d (by simp [hd]))

theorem mapM_some {α β : Type} {f : α → Option β} : ∀ {l : List α}, (∀ x ∈ l, ∃ y, f x = some y) → ∃ r, l.mapM f = some r
  | [], _ => ⟨[], rfl⟩
  | a :: l, h => by
    obtain ⟨y, hy⟩ := h a (by simp)
    obtain ⟨r, hr⟩ := mapM_some (l := l) fun x hx => h x (by simp [hx])
    exact ⟨y :: r, by rw [List.mapM_cons, hy, hr]; rfl⟩
theorem fields_lits {P : Program} {K : TypeId → Option (List (Option IntKind))} {n : Nat} (IH : ∀ t ks cs, K t = some ks → Fits ks cs → ∃ l, P.keyLits n t cs = some l) (cs : List Value) :
    ∀ (fs : List Field) (off : Nat) (ks : List (Option IntKind)), fieldKinds K P off fs = some ks → Fits ks (cs.drop off) → (∀ f ∈ fs, (f.name != "_") = true) ∧ ∀ f ∈ fs, ∃ l, P.keyLits n f.type ((cs.drop f.offset).take (P.cellsOf f.type)) = some l
  | [], _, _, _, _ => ⟨fun f hf => (by cases hf), fun f hf => (by cases hf)⟩
  | f :: fs, off, ks, h, hf => by
    unfold fieldKinds at h
    split at h
    · rename_i l hl
      split at h
      · rename_i hc
        simp only [Bool.and_eq_true, beq_iff_eq] at hc
        cases hr : fieldKinds K P (off + l.length) fs with
        | none => simp [hr] at h
        | some r =>
          simp only [hr, Option.map_some, Option.some.injEq] at h
          subst h
          have h1 := hf.cut
          rw [List.drop_drop] at h1
          obtain ⟨i1, i2⟩ := fields_lits IH cs fs _ r hr h1.2
          refine ⟨fun g hg => ?_, fun g hg => ?_⟩
          · rcases List.mem_cons.1 hg with rfl | hg
            · exact hc.1.1
            · exact i1 g hg
          · rcases List.mem_cons.1 hg with rfl | hg
            · rw [hc.1.2, ← hc.2]
              exact IH _ _ _ hl h1.1
            · exact i2 g hg
      · cases h
    · cases h
theorem flat_lits {P : Program} : ∀ (n : Nat) (t : TypeId) (ks : List (Option IntKind)) (cs : List Value), flatKinds P n t = some ks → Fits ks cs → ∃ l, P.keyLits n t cs = some l
  | 0, _, _, _, h, _ => by simp [flatKinds] at h
  | n + 1, t, ks, cs, h, hf => by
    have hlen := hf.length
    unfold flatKinds at h
    unfold Program.keyLits
    cases hu : P.underlying t with
    | none => simp [hu] at h
    | some d =>
      simp only [hu] at h
      cases d
      case bool =>
        simp only [Option.some.injEq] at h
        subst h
        match cs, hf with
        | [v], hf => obtain ⟨b, rfl⟩ := hf.1; exact ⟨_, rfl⟩
      case int k =>
        simp only [Option.some.injEq] at h
        subst h
        match cs, hf with
        | [v], hf => obtain ⟨m, rfl, hw⟩ := hf.1; exact ⟨[.int k m], by simp [hw]⟩
      case array m e =>
        simp only at h
        split at h
        · rename_i l hl
          split at h
          · rename_i hc
            simp only [Bool.and_eq_true, beq_iff_eq] at hc
            simp only [Option.some.injEq] at h
            subst h
            have e1 : cs.length = P.cellsOf t := by
              rw [hlen, hc.2, List.length_flatten]
              simp
            simp only [e1, if_true]
            obtain ⟨r, hr⟩ := mapM_some (f := fun i => P.keyLits n e ((cs.drop (i * P.cellsOf e)).take (P.cellsOf e))) (l := List.range m) fun i hi => by
              rw [← hc.1]
              exact flat_lits n e l _ hl (hf.rep i (List.mem_range.1 hi))
            exact ⟨r.flatten, by rw [hr]; rfl⟩
          · cases h
        · cases h
      case struct fs =>
        simp only at h
        split at h
        · rename_i l hl
          split at h
          · rename_i hc
            simp only [beq_iff_eq] at hc
            simp only [Option.some.injEq] at h
            subst h
            obtain ⟨i1, i2⟩ := fields_lits (fun t ks cs h1 h2 => flat_lits n t ks cs h1 h2) cs fs.toList 0 l hl (by simpa using hf)
            have e1 : cs.length = P.cellsOf t ∧ fs.all (·.name != "_") = true := ⟨by rw [hlen, hc], by
              rw [Array.all_eq_true_iff_forall_mem]
              intro f hf'
              exact i1 f (Array.mem_toList_iff.2 hf')⟩
            simp only [e1, and_self, if_true]
            obtain ⟨r, hr⟩ := mapM_some (f := fun f : Field => P.keyLits n f.type ((cs.drop f.offset).take (P.cellsOf f.type))) (l := fs.toList) i2
            exact ⟨r.flatten, by rw [hr]; rfl⟩
          · cases h
        · cases h
      all_goals (simp at h; done)

/-- what is to be known of a flat type -/
structure Flat (P : Program) (n : Nat) (t : TypeId) (ks : List (Option IntKind)) : Prop where
  kinds : flatKinds P n t = some ks
  key : P.keyTypeAt n t = true
  tiled : P.tiled n t = true
  guard : P.eqGuardType P.depth t = false
  deep : n ≤ 10000
  wide : (match P.underlying t with | some (.array _ _) | some (.struct _) => true | _ => false) = true
theorem Flat.equal {P : Program} {n : Nat} {t : TypeId} {ks : List (Option IntKind)} (F : Flat P n t ks) {xs ys : List Value} (hx : Fits ks xs) (hy : Fits ks ys) (b : Bool) (hb : b = true ↔ xs = ys) (w : World) :
    (Op.equal t (.agg xs.toArray) (.agg ys.toArray)).run P w = .ok b w := by
  obtain ⟨lx, h1⟩ := flat_lits n t ks xs F.kinds hx
  obtain ⟨ly, h2⟩ := flat_lits n t ks ys F.kinds hy
  have c1 := cells_of_lits n t F.tiled _ _ _ h1
  have c2 := cells_of_lits n t F.tiled _ _ _ h2
  have hl : ∀ {zs : List Value}, Fits ks zs → zs.length = P.cellsOf t := by
    intro zs hz
    obtain ⟨l, h⟩ := flat_lits n t ks zs F.kinds hz
    cases n with
    | zero => simp [Program.keyLits] at h
    | succ n =>
      unfold Program.keyLits at h
      have hw := F.wide
      split at hw
      · rename_i hu
        simp only [hu] at h
        split at h
        · assumption
        · cases h
      · rename_i hu
        simp only [hu] at h
        split at h
        · rename_i h'; exact h'.1
        · cases h
      · cases hw
  have formed : ∀ {zs : List Value}, Fits ks zs → (Value.agg zs.toArray).formed P t = true := by
    intro zs hz
    have hw := F.wide
    split at hw
    · rename_i hu; simp [Value.formed, hu, hl hz]
    · rename_i hu; simp [Value.formed, hu, hl hz]
    · cases hw
  obtain ⟨r, hr, hiff⟩ := run_equalIn_deep (P := P) (10000 - n) n t F.key w n n _ _ lx ly (formed hx) (formed hy) (by simpa [Value.cells] using h1) (by simpa [Value.cells] using h2)
  rw [show 10000 - n + n = 10000 by have := F.deep; omega] at hr
  have hrb : r = b := by
    rw [Bool.eq_iff_iff, hiff, hb]
    constructor
    · intro e; rw [c1, c2, e]
    · intro e
      subst e
      rw [h1] at h2
      exact Option.some.inj h2
  subst hrb
  exact hr
theorem Flat.eql {P : Program} {n : Nat} {t : TypeId} {ks : List (Option IntKind)} (F : Flat P n t ks) {xs ys : List Value} (hx : Fits ks xs) (hy : Fits ks ys) (b : Bool) (hb : b = true ↔ xs = ys) (w : World) :
    (binOp .eql t (.agg xs.toArray) (.agg ys.toArray)).run P w = .ok (.bool b) w := by
  simp only [binOp]
  simp [F.equal hx hy b hb w]
theorem Flat.neq {P : Program} {n : Nat} {t : TypeId} {ks : List (Option IntKind)} (F : Flat P n t ks) {xs ys : List Value} (hx : Fits ks xs) (hy : Fits ks ys) (b : Bool) (hb : b = true ↔ xs = ys) (w : World) :
    (binOp .neq t (.agg xs.toArray) (.agg ys.toArray)).run P w = .ok (.bool (!b)) w := by
  simp only [binOp]
  simp [F.equal hx hy b hb w]
theorem Flat.gd {P : Program} {n : Nat} {t : TypeId} {ks : List (Option IntKind)} (F : Flat P n t ks) (op : BinOp) (x y : Operand) (xs ys : Array Value) (w : World) : (eqGuard op t x y (.agg xs) (.agg ys)).run P w = .ok () w :=
  run_eqGuard_agg w op t x y xs ys F.guard
end Agg
end
section
/-
  WHAT AN ARGUMENT OF A FLAT TYPE (structs, arrays, of bools and integers) HOLDS: cells of its kinds. Over any program.
-/
namespace Agg
open Go Go.RowKit

theorem Fits.of_chunks {l : List (Option IntKind)} : ∀ {m : Nat} {cs : List Value}, cs.length = m * l.length → (∀ i, i < m → Fits l ((cs.drop (i * l.length)).take l.length)) → Fits (List.replicate m l).flatten cs
  | 0, cs, hl, _ => by
    have : cs = [] := List.eq_nil_of_length_eq_zero (by simpa using hl)
    subst this; exact trivial
  | m + 1, cs, hl, h => by
    rw [List.replicate_succ, List.flatten_cons, ← List.take_append_drop l.length cs]
    refine Fits.app (by simpa using h 0 (by omega)) (Fits.of_chunks ?_ fun i hi => ?_)
    · rw [List.length_drop, hl, Nat.succ_mul]; omega
    · have := h (i + 1) (by omega)
      rw [List.drop_drop]
      rwa [show l.length + i * l.length = (i + 1) * l.length by rw [Nat.succ_mul]; omega]
theorem fields_fits {P : Program} {K : TypeId → Option (List (Option IntKind))} (cs : List Value) :
    ∀ (fs : List Field) (off : Nat) (ks : List (Option IntKind)), fieldKinds K P off fs = some ks → cs.length = off + ks.length → (∀ f ∈ fs, ∀ l, K f.type = some l → Fits l ((cs.drop f.offset).take (P.cellsOf f.type))) → Fits ks (cs.drop off)
  | [], off, ks, h, hl, _ => by
    simp only [fieldKinds, Option.some.injEq] at h
    subst h
    rw [List.drop_eq_nil_of_le (by simpa using Nat.le_of_eq hl)]
    exact trivial
  | f :: fs, off, ks, h, hl, hf => by
    unfold fieldKinds at h
    split at h
    · rename_i l hk
      split at h
      · rename_i hc
        simp only [Bool.and_eq_true, beq_iff_eq] at hc
        cases hr : fieldKinds K P (off + l.length) fs with
        | none => simp [hr] at h
        | some r =>
          simp only [hr, Option.map_some, Option.some.injEq] at h
          subst h
          have h1 := hf f (by simp) l hk
          rw [hc.1.2, ← hc.2] at h1
          have h2 := fields_fits cs fs _ r hr (by rw [hl, List.length_append]; omega) (fun g hg => hf g (by simp [hg]))
          rw [← List.take_append_drop l.length (cs.drop off), List.drop_drop]
          exact Fits.app h1 h2
      · cases h
    · cases h
theorem good_fits {P : Program} {w : World} : ∀ (fuel n : Nat) (t : TypeId) (ks : List (Option IntKind)) (cs : List Value), flatKinds P n t = some ks → Good P w fuel t cs → Fits ks cs
  | 0, _, _, _, _, _, h => h.elim
  | _ + 1, 0, _, _, _, h, _ => by simp [flatKinds] at h
  | fuel + 1, n + 1, t, ks, cs, hk, h => by
    unfold flatKinds at hk
    unfold Good at h
    cases hu : P.underlying t with
    | none => simp [hu] at hk
    | some d =>
      simp only [hu] at hk h
      cases d
      case bool =>
        simp only [Option.some.injEq] at hk
        subst hk
        obtain ⟨b, rfl⟩ := h
        exact ⟨⟨b, rfl⟩, trivial⟩
      case int k =>
        simp only [Option.some.injEq] at hk
        subst hk
        obtain ⟨z, rfl, h0, h1⟩ := h
        exact ⟨⟨z, rfl, by simp [Lit.wf, h0, h1]⟩, trivial⟩
      case array m e =>
        simp only at hk
        split at hk
        · rename_i l hl
          split at hk
          · rename_i hc
            simp only [Bool.and_eq_true, beq_iff_eq] at hc
            simp only [Option.some.injEq] at hk
            subst hk
            refine Fits.of_chunks (by rw [h.1, hc.2]) fun i hi => ?_
            have := good_fits fuel n e l _ hl (h.2 i hi)
            rwa [← hc.1] at this
          · cases hk
        · cases hk
      case struct fs =>
        simp only at hk
        split at hk
        · rename_i l hl
          split at hk
          · rename_i hc
            simp only [beq_iff_eq] at hc
            simp only [Option.some.injEq] at hk
            subst hk
            have := fields_fits (P := P) (K := flatKinds P n) cs fs.toList 0 l hl (by rw [h.1, hc, Nat.zero_add]) fun f hf lf hlf => by
              obtain ⟨i, hi, rfl⟩ := List.mem_iff_getElem.1 hf
              have hi' : i < fs.size := by simpa using hi
              exact good_fits fuel n _ lf _ hlf (h.2 i _ (by simp [hi']))
            simpa using this
          · cases hk
        · cases hk
      all_goals (simp at hk; done)
end Agg
end
