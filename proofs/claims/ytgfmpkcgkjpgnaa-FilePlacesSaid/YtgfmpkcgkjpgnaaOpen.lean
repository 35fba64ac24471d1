/-
  BLOCKS, in plain Lean: their cells (the head of XPg1, for other seats); rows of things of one size.
-/
import Derived.OpenShut
import Derived.ShutString
import Derived.ChangeOld
import Derived.Deep.Slices
import Derived.Test.YtgfmpkcgkjpgnaaRow
import Derived.Test.YtgfmpkcgkjpgnaaAgg
section
namespace Pg
open Go Go.RowKit Agg

/-- a sector: its stamp, its bytes -/
abbrev Sec := Nat × List UInt8
def secC (s : Sec) : List Value := .int .u64 (s.1 : Int) :: bv s.2
def blkC (b : List Sec) : List Value := b.flatMap secC
def Len32 (b : List Sec) : Prop := ∀ s ∈ b, s.2.length = 32
def BOk (b : List Sec) : Prop := b.length = 4 ∧ ∀ s ∈ b, s.2.length = 32 ∧ s.1 < 18446744073709551616
theorem BOk.len {b : List Sec} (h : BOk b) : Len32 b := fun s hs => (h.2 s hs).1
theorem secC_length (s : Sec) (h : s.2.length = 32) : (secC s).length = 33 := by simp [secC, bv_length, h]
theorem blkC_cons (s : Sec) (b : List Sec) : blkC (s :: b) = secC s ++ blkC b := rfl
theorem blkC_append (a b : List Sec) : blkC (a ++ b) = blkC a ++ blkC b := List.flatMap_append
theorem blkC_length (b : List Sec) (h : Len32 b) : (blkC b).length = b.length * 33 := by
  induction b with
  | nil => rfl
  | cons s r ih =>
    rw [blkC_cons, List.length_append, secC_length s (h s (by simp)), ih (fun x hx => h x (by simp [hx])), List.length_cons]; omega
theorem blkC_one (b : List Sec) : ∀ u ∈ blkC b, u.oneCell' = true := by
  intro u hu
  obtain ⟨s, _, hs⟩ := List.mem_flatMap.1 hu
  rcases List.mem_cons.1 hs with rfl | h
  · rfl
  · exact bv_one _ u h
theorem secC_one (s : Sec) : ∀ u ∈ secC s, u.oneCell' = true := by
  intro u hu
  rcases List.mem_cons.1 hu with rfl | h
  · rfl
  · exact bv_one _ u h
/-- a block, cut at a sector -/
theorem cut_at (b : List Sec) (k : Nat) (h : k < b.length) : b = b.take k ++ (b[k] :: b.drop (k + 1)) := by
  rw [List.getElem_cons_drop]; exact (List.take_append_drop k b).symm
theorem take_len (b : List Sec) (hl : Len32 b) (k : Nat) (h : k ≤ b.length) : (blkC (b.take k)).length = k * 33 := by
  rw [blkC_length _ (fun s hs => hl s (List.mem_of_mem_take hs)), List.length_take]
  congr 1; omega
theorem blkC_sec (b : List Sec) (hl : Len32 b) (k : Nat) (h : k < b.length) (r : List Value) : ((blkC b ++ r).drop (k * 33)).take 33 = secC b[k] := by
  have e : blkC b = blkC (b.take k) ++ (secC b[k] ++ blkC (b.drop (k + 1))) := by
    conv => lhs; rw [cut_at b k h]
    rw [blkC_append, blkC_cons]
  rw [e, List.append_assoc, List.drop_left' (take_len b hl k (by omega)), List.append_assoc, List.take_left' (secC_length _ (hl _ (List.getElem_mem h)))]
theorem blkC_cell (b : List Sec) (hl : Len32 b) (k : Nat) (h : k < b.length) (r : List Value) (j : Nat) (hj : j < 33) : (blkC b ++ r)[k * 33 + j]? = (secC b[k])[j]? := by
  rw [← blkC_sec b hl k h r, List.getElem?_take_of_lt hj, List.getElem?_drop]
theorem blkC_stamp (b : List Sec) (hl : Len32 b) (k : Nat) (h : k < b.length) (r : List Value) : (blkC b ++ r)[k * 33]? = some (.int .u64 (b[k].1 : Int)) := blkC_cell b hl k h r 0 (by omega)
theorem blkC_byte (b : List Sec) (hl : Len32 b) (k : Nat) (h : k < b.length) (r : List Value) (j : Nat) (hj : j < b[k].2.length) : (blkC b ++ r)[k * 33 + (1 + j)]? = some (.int .u8 (b[k].2[j].toNat : Int)) := by
  have := hl _ (List.getElem_mem h)
  rw [blkC_cell b hl k h r (1 + j) (by omega), show 1 + j = j + 1 by omega]
  exact bv_get _ _ hj
theorem blkC_set (b : List Sec) (hl : Len32 b) (k : Nat) (h : k < b.length) (s : Sec) (hs : s.2.length = 32) (r : List Value) : spliced (blkC b ++ r) (k * 33) (secC s) = blkC (b.set k s) ++ r := by
  have e : blkC b ++ r = blkC (b.take k) ++ secC b[k] ++ (blkC (b.drop (k + 1)) ++ r) := by
    conv => lhs; rw [cut_at b k h]
    rw [blkC_append, blkC_cons]; simp only [List.append_assoc]
  have e2 : b.set k s = b.take k ++ (s :: b.drop (k + 1)) := by rw [List.set_eq_take_append_cons_drop, if_pos h]
  rw [e, spliced_mid _ _ _ _ _ (take_len b hl k (by omega)) (by rw [secC_length _ hs, secC_length _ (hl _ (List.getElem_mem h))]), e2, blkC_append, blkC_cons]
  simp only [List.append_assoc]
theorem blkC_put (b : List Sec) (hl : Len32 b) (k : Nat) (h : k < b.length) (d : List UInt8) (hd : d.length = 32) (r : List Value) : spliced (blkC b ++ r) (k * 33 + 1) (bv d) = blkC (b.set k (b[k].1, d)) ++ r := by
  have e : blkC b ++ r = (blkC (b.take k) ++ [.int .u64 (b[k].1 : Int)]) ++ bv b[k].2 ++ (blkC (b.drop (k + 1)) ++ r) := by
    conv => lhs; rw [cut_at b k h]
    rw [blkC_append, blkC_cons, secC]; simp only [List.append_assoc, List.cons_append, List.nil_append]
  have e2 : b.set k (b[k].1, d) = b.take k ++ ((b[k].1, d) :: b.drop (k + 1)) := by rw [List.set_eq_take_append_cons_drop, if_pos h]
  rw [e, spliced_mid _ _ _ _ _ (by rw [List.length_append, take_len b hl k (by omega)]; rfl) (by rw [bv_length, bv_length, hd, hl _ (List.getElem_mem h)]), e2, blkC_append, blkC_cons, secC]
  simp only [List.append_assoc, List.cons_append, List.nil_append]
theorem blkC_stamped (b : List Sec) (hl : Len32 b) (k : Nat) (h : k < b.length) (n : Nat) (r : List Value) : spliced (blkC b ++ r) (k * 33) [.int .u64 (n : Int)] = blkC (b.set k (n, b[k].2)) ++ r := by
  have e : blkC b ++ r = blkC (b.take k) ++ [.int .u64 (b[k].1 : Int)] ++ (bv b[k].2 ++ (blkC (b.drop (k + 1)) ++ r)) := by
    conv => lhs; rw [cut_at b k h]
    rw [blkC_append, blkC_cons, secC]; simp only [List.append_assoc, List.cons_append, List.nil_append]
  have e2 : b.set k (n, b[k].2) = b.take k ++ ((n, b[k].2) :: b.drop (k + 1)) := by rw [List.set_eq_take_append_cons_drop, if_pos h]
  rw [e, spliced_mid (blkC (b.take k)) [.int .u64 (b[k].1 : Int)] (bv b[k].2 ++ (blkC (b.drop (k + 1)) ++ r)) [.int .u64 (n : Int)] (k * 33) (take_len b hl k (by omega)) rfl, e2, blkC_append, blkC_cons, secC]
  simp only [List.append_assoc, List.cons_append, List.nil_append]
theorem set_len {b : List Sec} (hl : Len32 b) (k : Nat) (s : Sec) (hs : s.2.length = 32) : Len32 (b.set k s) := by
  intro x hx
  rcases List.mem_or_eq_of_mem_set hx with h | h
  · exact hl x h
  · rw [h]; exact hs

def zeroB : List Sec := List.replicate 4 (0, List.replicate 32 0)
theorem zeroB_bok : BOk zeroB := ⟨rfl, fun s hs => by
  obtain rfl := List.eq_of_mem_replicate hs
  exact ⟨by simp, by decide⟩⟩
theorem bok_cells {b : List Sec} (h : BOk b) : (blkC b).length = 132 := by rw [blkC_length b h.len, h.1]
theorem zero132 : (blkC zeroB).length = 132 := bok_cells zeroB_bok
/-- rows of things of one size -/
theorem flat_len {α : Type} (f : α → List Value) (m : Nat) (l : List α) (hl : ∀ x ∈ l, (f x).length = m) : (l.flatMap f).length = l.length * m := by
  induction l with
  | nil => simp
  | cons a r ih =>
    rw [List.flatMap_cons, List.length_append, hl a (by simp), ih (fun x hx => hl x (by simp [hx])), List.length_cons, Nat.succ_mul]; omega
theorem flat_cells {α : Type} (f : α → List Value) (m : Nat) {l : List α} (hl : ∀ x ∈ l, (f x).length = m) (k : Nat) (h : k < l.length) (i : Nat) (v : Value) (hv : (f l[k])[i]? = some v) : (l.flatMap f)[k * m + i]? = some v := by
  induction l generalizing k with
  | nil => simp at h
  | cons a r ih =>
    have ha := hl a (by simp)
    rw [List.flatMap_cons]
    cases k with
    | zero =>
      have : i < (f a).length := (List.getElem?_eq_some_iff.1 hv).1
      rw [List.getElem?_append_left (by omega)]
      simpa using hv
    | succ k =>
      rw [List.getElem?_append_right (by rw [ha, Nat.succ_mul]; omega), ha, show (k + 1) * m + i - m = k * m + i by rw [Nat.succ_mul]; omega]
      exact ih (fun x hx => hl x (by simp [hx])) k (by simpa using h) hv
theorem flat_at {α : Type} (f : α → List Value) (m : Nat) (hm : 0 < m) {w : World} {b o n cap : Nat} {l : List α} (h : SlR w (.slice (some ⟨b, o, none⟩) n cap) m l.length (l.flatMap f)) (hl : ∀ x ∈ l, (f x).length = m) {k : Nat} (hk : k < l.length) (i : Nat) (v : Value) (hv : (f l[k])[i]? = some v) : w.cell? ⟨b, o + (k : Int).toNat * m + i, none⟩ = some v := by
  obtain ⟨b', o', cap', hv', _, _, hc, _⟩ := SlR.pos h hm (by omega)
  simp only [Value.slice.injEq, Option.some.injEq, Addr.mk.injEq, and_true] at hv'
  obtain ⟨⟨rfl, rfl⟩, _⟩ := hv'
  have := hc (k * m + i) _ (flat_cells f m hl k hk i v hv)
  rw [Int.toNat_natCast, Nat.add_assoc]; exact this
end Pg
end
section
/-
  WHAT AN ARGUMENT THAT CAN BE READ AS DATA HOLDS, cell by cell, whatever its type (of bools, integers, strings, structs, arrays, slices). Over any program.
-/
namespace Agg
open Go Go.RowKit Go.ChangeShapes Go.WideShapes Go.Deep

theorem okWide_array {P : Program} {w : World} {r : Reach} {base : Nat} {t : TypeId} {v : Value} {n : Nat} {e : TypeId} (ht : P.underlying t = some (.array n e)) (h : Value.okWide P w r base t v) : ∃ cs, v = .agg cs ∧ cs.size = P.cellsOf t := by
  simp only [Value.okWide, ht] at h
  obtain ⟨cs, h1, h2, _⟩ := h
  exact ⟨cs, h1, h2⟩
def Good (P : Program) (w : World) : Nat → TypeId → List Value → Prop
  | 0, _, _ => False
  | n + 1, t, cs =>
    match P.underlying t with
    | some .bool => ∃ b, cs = [.bool b]
    | some (.int k) => ∃ z : Int, cs = [.int k z] ∧ k.min ≤ z ∧ z ≤ k.max
    | some .string => ∃ s : ByteArray, cs = [.string s] ∧ s.size ≤ maxLen
    | some (.struct fs) => cs.length = P.cellsOf t ∧ ∀ (i : Nat) (f : Field), fs[i]? = some f → Good P w n f.type ((cs.drop f.offset).take (P.cellsOf f.type))
    | some (.array m e) => cs.length = P.cellsOf t ∧ ∀ i : Nat, i < m → Good P w n e ((cs.drop (i * P.cellsOf e)).take (P.cellsOf e))
    | some (.slice e) => cs = [.slice none 0 0] ∨ ∃ (a : Addr) (len cap : Nat), cs = [.slice (some a) len cap] ∧ len ≤ cap ∧ cap ≤ maxLen ∧
        ∀ i : Nat, i < len → ∃ cs' : List Value, cs'.length = P.cellsOf e ∧ (∀ j : Nat, j < P.cellsOf e → w.cell? (a.add (i * P.cellsOf e + j)) = cs'[j]?) ∧ Good P w n e cs'
    | _ => True

theorem good_of_trod {H : Type} {enc : TypeId × Value → H} {P : Program} {w : World} {base : Nat} {spare : Nat → Bool} {held : Bool} : ∀ (fuel : Nat) (t : TypeId) (cs : List Value) (x : DataW H × List MemPlace),
    DataW.trod enc P w base spare held fuel t cs = some x → Good P w fuel t cs
  | 0, _, _, _, h => by simp [DataW.trod] at h
  | n + 1, t, cs, x, h => by
    unfold Good
    split
    · rename_i ht; obtain ⟨b, hb, _⟩ := DataW.trod_bool ht h; exact ⟨b, hb⟩
    · rename_i k ht
      obtain ⟨z, hz, _, hw⟩ := DataW.trod_int ht h
      simp only [Lit.wf, Bool.and_eq_true, decide_eq_true_eq] at hw
      exact ⟨z, hz, hw⟩
    · rename_i ht; obtain ⟨s, hs, _, hm⟩ := DataW.trod_string ht h; exact ⟨s, hs, hm⟩
    · rename_i fs ht
      obtain ⟨xs, m, hm, _, hl, hxl, hf⟩ := DataW.trod_struct ht h
      obtain rfl : n = m := by omega
      refine ⟨hl, fun i f hi => ?_⟩
      have h1 := hf i f hi
      have hlt : i < xs.length := by rw [hxl]; exact (Array.getElem?_eq_some_iff.1 hi).1
      rw [List.getElem?_eq_getElem hlt] at h1
      exact good_of_trod n _ _ _ h1
    · rename_i m e ht
      obtain ⟨xs, m', hm, _, hl, hxl, hf⟩ := DataW.trod_array ht h
      obtain rfl : n = m' := by omega
      refine ⟨hl, fun i hi => ?_⟩
      have h1 := hf i hi
      have hlt : i < xs.length := by omega
      rw [List.getElem?_eq_getElem hlt] at h1
      exact good_of_trod n _ _ _ h1
    · rename_i e ht
      rcases DataW.trod_slice ht h with ⟨h0, _⟩ | ⟨a, len, cap, elems, rest, m, hm, hcs, _, _, hl, hcm, hlen, hel, _⟩
      · exact .inl h0
      · obtain rfl : n = m := by omega
        refine .inr ⟨a, len, cap, hcs, hl, hcm, fun i hi => ?_⟩
        have h1 := hel i hi
        rw [List.getElem?_eq_getElem (by omega)] at h1
        obtain ⟨cs', hc, ht'⟩ := Option.bind_eq_some_iff.1 h1
        obtain ⟨_, hcl, hat⟩ := World.cells?_some hc
        exact ⟨cs', hcl, fun j hj => by rw [← hat j hj, Go.Deep.add_add], good_of_trod n _ _ _ ht'⟩
    · trivial

/-- a slice of bytes that can be read -/
theorem good_bytes {P : Program} {w : World} {t e : TypeId} (ht : P.underlying t = some (.slice e)) (he : P.underlying e = some (.int .u8)) (hc : P.cellsOf e = 1) {fuel : Nat} {v : Value} (h : Good P w fuel t [v]) :
    ∃ l : List UInt8, Bytes w v l ∧ l.length ≤ maxLen := by
  cases fuel with
  | zero => exact h.elim
  | succ n =>
    unfold Good at h
    rw [ht] at h
    rcases h with h | ⟨a, len, cap, h, hl, hm, hcs⟩
    · simp only [List.cons.injEq, and_true] at h
      subst h
      exact ⟨[], SlR.nil _ _, Nat.zero_le _⟩
    · simp only [List.cons.injEq, and_true] at h
      subst h
      have key : ∀ i, i < len → ∃ c : UInt8, w.cell? (a.add i) = some (.int .u8 (c.toNat : Int)) := by
        intro i hi
        obtain ⟨cs', hcl, hat, hg⟩ := hcs i hi
        cases n with
        | zero => exact hg.elim
        | succ n =>
          unfold Good at hg
          rw [he] at hg
          obtain ⟨z, rfl, h0, h1⟩ := hg
          have := hat 0 (by omega)
          rw [hc, Nat.mul_one, Nat.add_zero] at this
          simp only [IntKind.min, IntKind.max, IntKind.signed, IntKind.bits] at h0 h1
          have h0' : 0 ≤ z := by simpa using h0
          have h1' : z ≤ 255 := by simpa using h1
          refine ⟨UInt8.ofNat z.toNat, ?_⟩
          rw [this]
          simp only [List.getElem?_cons_zero]
          congr 2
          rw [UInt8.toNat_ofNat']; omega
      have hch : ∃ f : Nat → UInt8, ∀ i, i < len → w.cell? (a.add i) = some (.int .u8 ((f i).toNat : Int)) :=
        ⟨fun i => if h : i < len then Classical.choose (key i h) else 0, fun i hi => by simp only [hi, dif_pos]; exact Classical.choose_spec (key i hi)⟩
      obtain ⟨f, hf⟩ := hch
      refine ⟨(List.range len).map f, ⟨by simp [bv_length], .inr ⟨a, cap, by simp, by simpa using hl, hm, fun i u hu => ?_⟩⟩, by simp; omega⟩
      have hi : i < len := by
        have := (List.getElem?_eq_some_iff.1 hu).1
        simpa [bv] using this
      rw [bv_get _ _ (by simpa using hi)] at hu
      simp only [List.getElem_map, List.getElem_range, Option.some.injEq] at hu
      subst hu
      exact hf i hi
/-- rows of bytes that can be read -/
theorem good_rows {P : Program} {w : World} {t s e : TypeId} (ht : P.underlying t = some (.slice s)) (hs : P.underlying s = some (.slice e)) (he : P.underlying e = some (.int .u8)) (hcs : P.cellsOf s = 1) (hc : P.cellsOf e = 1) {fuel : Nat} {v : Value} (h : Good P w fuel t [v]) :
    ∃ ls : List (List UInt8), Rows2 w v ls ∧ ∀ l ∈ ls, l.length ≤ maxLen := by
  cases fuel with
  | zero => exact h.elim
  | succ n =>
    unfold Good at h
    rw [ht] at h
    rcases h with h | ⟨a, len, cap, h, hl, hm, hel⟩
    · simp only [List.cons.injEq, and_true] at h
      subst h
      exact ⟨[], ⟨[], SlR.nil _ _, fun i l hl => by simp at hl⟩, fun l hl => by cases hl⟩
    · simp only [List.cons.injEq, and_true] at h
      subst h
      have key : ∀ i, i < len → ∃ x : Value × List UInt8, w.cell? (a.add i) = some x.1 ∧ Bytes w x.1 x.2 ∧ x.2.length ≤ maxLen := by
        intro i hi
        obtain ⟨cs', hcl, hat, hg⟩ := hel i hi
        rw [hcs] at hcl
        match cs', hcl with
        | [u], _ =>
          obtain ⟨l, hb, hlm⟩ := good_bytes hs he hc hg
          have := hat 0 (by omega)
          rw [hcs, Nat.mul_one, Nat.add_zero] at this
          exact ⟨(u, l), this, hb, hlm⟩
      have hch : ∃ f : Nat → Value × List UInt8, ∀ i, i < len → w.cell? (a.add i) = some (f i).1 ∧ Bytes w (f i).1 (f i).2 ∧ (f i).2.length ≤ maxLen :=
        ⟨fun i => if h : i < len then Classical.choose (key i h) else (.nilFunc, []), fun i hi => by simp only [hi, dif_pos]; exact Classical.choose_spec (key i hi)⟩
      obtain ⟨f, hf⟩ := hch
      refine ⟨(List.range len).map fun i => (f i).2, ⟨(List.range len).map fun i => (f i).1, ⟨by simp, .inr ⟨a, cap, by simp, by simpa using hl, hm, fun i u hu => ?_⟩⟩, fun i l hl' => ?_⟩, fun l hl' => ?_⟩
      · have hi : i < len := by have := (List.getElem?_eq_some_iff.1 hu).1; simpa using this
        simp only [List.getElem?_map, List.getElem?_range hi, Option.map_some, Option.some.injEq] at hu
        subst hu
        exact (hf i hi).1
      · have hi : i < len := by have := (List.getElem?_eq_some_iff.1 hl').1; simpa using this
        simp only [List.getElem?_map, List.getElem?_range hi, Option.map_some, Option.some.injEq] at hl' ⊢
        subst hl'
        exact ⟨_, rfl, (hf i hi).2.1⟩
      · obtain ⟨i, hi, rfl⟩ := List.mem_map.1 hl'
        exact (hf i (List.mem_range.1 hi)).2.2
end Agg
end
