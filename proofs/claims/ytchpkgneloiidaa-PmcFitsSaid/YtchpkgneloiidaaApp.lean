/-
  BLOCKS, in plain Lean: their cells (the head of XPg1, for other seats); rows of things of one size.
-/
import Derived.Test.YtchpkgneloiidaaRow
import Derived.Test.YtchpkgneloiidaaHeld
import Derived.Test.YtchpkgneloiidaaChain2
import Derived.Test.YtchpkgneloiidaaCopy
section
namespace Pg
open Go Go.RowKit Agg

/-- a sector: its stamp, its bytes -/
abbrev Sec := Nat × List UInt8
def secC (s : Sec) : List Value := .int .u64 (s.1 : Int) :: bv s.2
def blkC (b : List Sec) : List Value := b.flatMap secC
def Len32 (b : List Sec) : Prop := ∀ s ∈ b, s.2.length = 32
def BOk (b : List Sec) : Prop := b.length = 4 ∧ ∀ s ∈ b, s.2.length = 32 ∧ s.1 < 18446744073709551616
theorem BOk.len {b : List Sec} (h : BOk b) : Len32 b := fun s hs => (h.2 s hs).1
theorem secC_length (s : Sec) (h : s.2.length = 32) : (secC s).length = 33 := by simp [secC, bv_length, h]
theorem blkC_cons (s : Sec) (b : List Sec) : blkC (s :: b) = secC s ++ blkC b := rfl
theorem blkC_append (a b : List Sec) : blkC (a ++ b) = blkC a ++ blkC b := List.flatMap_append
theorem blkC_length (b : List Sec) (h : Len32 b) : (blkC b).length = b.length * 33 := by
  induction b with
  | nil => rfl
  | cons s r ih =>
    rw [blkC_cons, List.length_append, secC_length s (h s (by simp)), ih (fun x hx => h x (by simp [hx])), List.length_cons]; omega
theorem blkC_one (b : List Sec) : ∀ u ∈ blkC b, u.oneCell' = true := by
  intro u hu
  obtain ⟨s, _, hs⟩ := List.mem_flatMap.1 hu
  rcases List.mem_cons.1 hs with rfl | h
  · rfl
  · exact bv_one _ u h
theorem secC_one (s : Sec) : ∀ u ∈ secC s, u.oneCell' = true := by
  intro u hu
  rcases List.mem_cons.1 hu with rfl | h
  · rfl
  · exact bv_one _ u h
/-- a block, cut at a sector -/
theorem cut_at (b : List Sec) (k : Nat) (h : k < b.length) : b = b.take k ++ (b[k] :: b.drop (k + 1)) := by
  rw [List.getElem_cons_drop]; exact (List.take_append_drop k b).symm
theorem take_len (b : List Sec) (hl : Len32 b) (k : Nat) (h : k ≤ b.length) : (blkC (b.take k)).length = k * 33 := by
  rw [blkC_length _ (fun s hs => hl s (List.mem_of_mem_take hs)), List.length_take]
  congr 1; omega
theorem blkC_sec (b : List Sec) (hl : Len32 b) (k : Nat) (h : k < b.length) (r : List Value) : ((blkC b ++ r).drop (k * 33)).take 33 = secC b[k] := by
  have e : blkC b = blkC (b.take k) ++ (secC b[k] ++ blkC (b.drop (k + 1))) := by
    conv => lhs; rw [cut_at b k h]
    rw [blkC_append, blkC_cons]
  rw [e, List.append_assoc, List.drop_left' (take_len b hl k (by omega)), List.append_assoc, List.take_left' (secC_length _ (hl _ (List.getElem_mem h)))]
theorem blkC_cell (b : List Sec) (hl : Len32 b) (k : Nat) (h : k < b.length) (r : List Value) (j : Nat) (hj : j < 33) : (blkC b ++ r)[k * 33 + j]? = (secC b[k])[j]? := by
  rw [← blkC_sec b hl k h r, List.getElem?_take_of_lt hj, List.getElem?_drop]
theorem blkC_stamp (b : List Sec) (hl : Len32 b) (k : Nat) (h : k < b.length) (r : List Value) : (blkC b ++ r)[k * 33]? = some (.int .u64 (b[k].1 : Int)) := blkC_cell b hl k h r 0 (by omega)
theorem blkC_byte (b : List Sec) (hl : Len32 b) (k : Nat) (h : k < b.length) (r : List Value) (j : Nat) (hj : j < b[k].2.length) : (blkC b ++ r)[k * 33 + (1 + j)]? = some (.int .u8 (b[k].2[j].toNat : Int)) := by
  have := hl _ (List.getElem_mem h)
  rw [blkC_cell b hl k h r (1 + j) (by omega), show 1 + j = j + 1 by omega]
  exact bv_get _ _ hj
theorem blkC_set (b : List Sec) (hl : Len32 b) (k : Nat) (h : k < b.length) (s : Sec) (hs : s.2.length = 32) (r : List Value) : spliced (blkC b ++ r) (k * 33) (secC s) = blkC (b.set k s) ++ r := by
  have e : blkC b ++ r = blkC (b.take k) ++ secC b[k] ++ (blkC (b.drop (k + 1)) ++ r) := by
    conv => lhs; rw [cut_at b k h]
    rw [blkC_append, blkC_cons]; simp only [List.append_assoc]
  have e2 : b.set k s = b.take k ++ (s :: b.drop (k + 1)) := by rw [List.set_eq_take_append_cons_drop, if_pos h]
  rw [e, spliced_mid _ _ _ _ _ (take_len b hl k (by omega)) (by rw [secC_length _ hs, secC_length _ (hl _ (List.getElem_mem h))]), e2, blkC_append, blkC_cons]
  simp only [List.append_assoc]
theorem blkC_put (b : List Sec) (hl : Len32 b) (k : Nat) (h : k < b.length) (d : List UInt8) (hd : d.length = 32) (r : List Value) : spliced (blkC b ++ r) (k * 33 + 1) (bv d) = blkC (b.set k (b[k].1, d)) ++ r := by
  have e : blkC b ++ r = (blkC (b.take k) ++ [.int .u64 (b[k].1 : Int)]) ++ bv b[k].2 ++ (blkC (b.drop (k + 1)) ++ r) := by
    conv => lhs; rw [cut_at b k h]
    rw [blkC_append, blkC_cons, secC]; simp only [List.append_assoc, List.cons_append, List.nil_append]
  have e2 : b.set k (b[k].1, d) = b.take k ++ ((b[k].1, d) :: b.drop (k + 1)) := by rw [List.set_eq_take_append_cons_drop, if_pos h]
  rw [e, spliced_mid _ _ _ _ _ (by rw [List.length_append, take_len b hl k (by omega)]; rfl) (by rw [bv_length, bv_length, hd, hl _ (List.getElem_mem h)]), e2, blkC_append, blkC_cons, secC]
  simp only [List.append_assoc, List.cons_append, List.nil_append]
theorem blkC_stamped (b : List Sec) (hl : Len32 b) (k : Nat) (h : k < b.length) (n : Nat) (r : List Value) : spliced (blkC b ++ r) (k * 33) [.int .u64 (n : Int)] = blkC (b.set k (n, b[k].2)) ++ r := by
  have e : blkC b ++ r = blkC (b.take k) ++ [.int .u64 (b[k].1 : Int)] ++ (bv b[k].2 ++ (blkC (b.drop (k + 1)) ++ r)) := by
    conv => lhs; rw [cut_at b k h]
    rw [blkC_append, blkC_cons, secC]; simp only [List.append_assoc, List.cons_append, List.nil_append]
  have e2 : b.set k (n, b[k].2) = b.take k ++ ((n, b[k].2) :: b.drop (k + 1)) := by rw [List.set_eq_take_append_cons_drop, if_pos h]
  rw [e, spliced_mid (blkC (b.take k)) [.int .u64 (b[k].1 : Int)] (bv b[k].2 ++ (blkC (b.drop (k + 1)) ++ r)) [.int .u64 (n : Int)] (k * 33) (take_len b hl k (by omega)) rfl, e2, blkC_append, blkC_cons, secC]
  simp only [List.append_assoc, List.cons_append, List.nil_append]
theorem set_len {b : List Sec} (hl : Len32 b) (k : Nat) (s : Sec) (hs : s.2.length = 32) : Len32 (b.set k s) := by
  intro x hx
  rcases List.mem_or_eq_of_mem_set hx with h | h
  · exact hl x h
  · rw [h]; exact hs

def zeroB : List Sec := List.replicate 4 (0, List.replicate 32 0)
theorem zeroB_bok : BOk zeroB := ⟨rfl, fun s hs => by
  obtain rfl := List.eq_of_mem_replicate hs
  exact ⟨by simp, by decide⟩⟩
theorem bok_cells {b : List Sec} (h : BOk b) : (blkC b).length = 132 := by rw [blkC_length b h.len, h.1]
theorem zero132 : (blkC zeroB).length = 132 := bok_cells zeroB_bok
/-- rows of things of one size -/
theorem flat_len {α : Type} (f : α → List Value) (m : Nat) (l : List α) (hl : ∀ x ∈ l, (f x).length = m) : (l.flatMap f).length = l.length * m := by
  induction l with
  | nil => simp
  | cons a r ih =>
    rw [List.flatMap_cons, List.length_append, hl a (by simp), ih (fun x hx => hl x (by simp [hx])), List.length_cons, Nat.succ_mul]; omega
theorem flat_cells {α : Type} (f : α → List Value) (m : Nat) {l : List α} (hl : ∀ x ∈ l, (f x).length = m) (k : Nat) (h : k < l.length) (i : Nat) (v : Value) (hv : (f l[k])[i]? = some v) : (l.flatMap f)[k * m + i]? = some v := by
  induction l generalizing k with
  | nil => simp at h
  | cons a r ih =>
    have ha := hl a (by simp)
    rw [List.flatMap_cons]
    cases k with
    | zero =>
      have : i < (f a).length := (List.getElem?_eq_some_iff.1 hv).1
      rw [List.getElem?_append_left (by omega)]
      simpa using hv
    | succ k =>
      rw [List.getElem?_append_right (by rw [ha, Nat.succ_mul]; omega), ha, show (k + 1) * m + i - m = k * m + i by rw [Nat.succ_mul]; omega]
      exact ih (fun x hx => hl x (by simp [hx])) k (by simpa using h) hv
theorem flat_at {α : Type} (f : α → List Value) (m : Nat) (hm : 0 < m) {w : World} {b o n cap : Nat} {l : List α} (h : SlR w (.slice (some ⟨b, o, none⟩) n cap) m l.length (l.flatMap f)) (hl : ∀ x ∈ l, (f x).length = m) {k : Nat} (hk : k < l.length) (i : Nat) (v : Value) (hv : (f l[k])[i]? = some v) : w.cell? ⟨b, o + (k : Int).toNat * m + i, none⟩ = some v := by
  obtain ⟨b', o', cap', hv', _, _, hc, _⟩ := SlR.pos h hm (by omega)
  simp only [Value.slice.injEq, Option.some.injEq, Addr.mk.injEq, and_true] at hv'
  obtain ⟨⟨rfl, rfl⟩, _⟩ := hv'
  have := hc (k * m + i) _ (flat_cells f m hl k hk i v hv)
  rw [Int.toNat_natCast, Nat.add_assoc]; exact this
end Pg
end
section
/-
  A row of cells in a region, wherever it lies (a part of XDvA, for other seats). Over any program.
-/
namespace Agg
open Go Go.RowKit
section
variable {n kk : Nat} {P : Program} {l rest : List Oper} {W : World} {l0 : List Value} {ds : List Deferred} {acc : List R} {o : Oper} {fin : List R → Prop}
/-- a row of cells, wherever it lies -/
theorem chRowAt (m : Nat) (cs : List Value) (hm : cs.length = m) {b f : Nat} {t : TypeId} {y : Operand} (ht : aggT P t m = true) (ho : o.op = .load t y) (hy : rd (l.take n) l0 kk acc o y = some (.pointer (some ⟨b, f, none⟩))) (hw : wants kk acc o = some true) (hk : gOk l o = true)
    (hc : ∀ i v, cs[i]? = some v → W.cell? ⟨b, f + i, none⟩ = some v)
    (h : ChainR n P l.toArray W ⟨l0.toArray, ds⟩ (kk + 1) ((.pure (.agg cs.toArray)) :: acc) rest fin) : ChainR n P l.toArray W ⟨l0.toArray, ds⟩ kk acc (o :: rest) fin := by
  subst hm
  simp only [aggT, Bool.and_eq_true, beq_iff_eq] at ht
  obtain ⟨e1, e2⟩ := ht
  cases hu : P.underlying t with
  | none => simp [hu] at e1
  | some d =>
    refine chLoadRow d cs ho hy hw hk hu ?_ e2 (fun i v hi => ?_) h
    · cases d <;> simp [hu] at e1 <;> rfl
    · rw [add_none]; exact hc i v hi
end
end Agg
end
section
/-
  ROWS of one's own beside blocks that are known (parts of XDvG .. XDvJ, for other seats). Over any program.
-/
namespace Agg
open Go Go.RowKit
/-- a block of another type is not a row's -/
theorem own_apart {w : World} {base : Nat} {e T : TypeId} {sz n t : Nat} {v : Value} {xs cs : List Value} (h : w.ownsRow base e sz v n xs) (hb : Blk w t T cs) (hne : e ≠ T) : v.ownBlock = none ∨ v.ownBlock ≠ some t := by
  rcases h.2 with ⟨rfl, _⟩ | ⟨g, cap, cur, rfl, _, h3, _⟩
  · exact .inl rfl
  · refine .inr (fun e2 => ?_)
    have : g = t := by simpa [Value.ownBlock] using e2
    subst this
    rw [hb] at h3
    cases h3
    exact hne rfl
theorem blk_row {w w' : World} {t : Nat} {T : TypeId} {cs : List Value} {row : Option Nat} (h : Blk w t T cs) (hg : w.grownBy w' row) (hne : row = none ∨ row ≠ some t) : Blk w' t T cs :=
  (hg.block _ h.lt (hne.elim (fun e => by rw [e]; simp) (fun e e2 => e e2.symm))).trans h
theorem blk_ne {w : World} {t g : Nat} {T E : TypeId} {cs ds : List Value} (h : Blk w t T cs) (h2 : Blk w g E ds) (hne : T ≠ E) : t ≠ g := by
  intro e
  subst e
  unfold Blk at h h2
  rw [h] at h2
  cases h2
  exact hne rfl
theorem own_base {w : World} {b b' : Nat} {e : TypeId} {sz : Nat} {v : Value} {n : Nat} {xs : List Value} (h : w.ownsRow b e sz v n xs) (hb : b' ≤ b) : w.ownsRow b' e sz v n xs := own_mono h hb
end Agg
end
section
/-
  ROWS OF ONE'S OWN, cell by cell. Over any program.
-/
namespace Agg
open Go Go.RowKit
theorem ownBlk {w : World} {base : Nat} {e : TypeId} {sz g n cap : Nat} {xs : List Value} (h : w.ownsRow base e sz (.slice (some ⟨g, 0, none⟩) n cap) n xs) : ∃ r, Blk w g e (xs ++ r) ∧ base ≤ g ∧ n ≤ cap ∧ cap ≤ maxLen ∧ (xs ++ r).length = cap * sz := by
  rcases h.2 with ⟨h1, _⟩ | ⟨g', cap', cur, h1, h2, h3, h4, h5, h6, h7⟩
  · cases h1
  · cases h1
    have e : xs ++ cur.toList.drop (n * sz) = cur.toList := by rw [← h7]; exact List.take_append_drop _ _
    refine ⟨cur.toList.drop (n * sz), ?_, h2, h4, h5, ?_⟩
    · rw [e]; simpa [Blk] using h3
    · rw [e]; simpa using h6
theorem blkOwn {w : World} {base : Nat} {e : TypeId} {sz g n cap : Nat} {xs r : List Value} (h : Blk w g e (xs ++ r)) (hb : base ≤ g) (h4 : n ≤ cap) (h5 : cap ≤ maxLen) (h6 : (xs ++ r).length = cap * sz) (hx : xs.length = n * sz) : w.ownsRow base e sz (.slice (some ⟨g, 0, none⟩) n cap) n xs := by
  refine ⟨hx, .inr ⟨g, cap, (xs ++ r).toArray, rfl, hb, h, h4, h5, by simpa using h6, ?_⟩⟩
  simp [← hx]
theorem spliced_set (xs : List Value) (k : Nat) (v : Value) (h : k < xs.length) : spliced xs k [v] = xs.set k v := by
  unfold spliced
  rw [List.set_eq_take_append_cons_drop, if_pos h]
  simp
/-- a row of one's own: where it lies -/
theorem ownPos {w : World} {base : Nat} {e : TypeId} {sz n : Nat} {v : Value} {xs : List Value} (h : w.ownsRow base e sz v n xs) (hn : 0 < n) : ∃ g cap, v = .slice (some ⟨g, 0, none⟩) n cap := by
  rcases h.2 with ⟨_, h1⟩ | ⟨g', cap', cur, h1, h2, h3, h4, h5, h6, h7⟩
  · omega
  · exact ⟨g', cap', h1⟩
variable {P : Program} {Q : Exit → Act → World → Prop} {o : Oper} {w : World} in
/-- a cell of such a row is stored -/
theorem gStoreOwn {ops : Array Oper} {rest : List Oper} {a : Act} {t : TypeId} {x y : Operand} {base : Nat} {e : TypeId} {g n cap : Nat} {xs : List Value} (k : Nat) (v : Value) (H : w.ownsRow base e 1 (.slice (some ⟨g, 0, none⟩) n cap) n xs) (hk : k < n)
    (hg : o.guard = none) (hd : o.dst = none) (ho : o.op = .store t x y) (hx : a.eval x = .pointer (some ⟨g, k, none⟩)) (hy : a.eval y = v)
    (ht : (P.info? t).map (·.size) = some 1) (hv : v.cells.toList = [v]) (h1 : v.oneCell' = true)
    (h : ∀ w', w'.ownsRow base e 1 (.slice (some ⟨g, 0, none⟩) n cap) n (xs.set k v) → w.grownBy w' (some g) → wpList P ops Q rest a w') : wpList P ops Q (o :: rest) a w := by
  obtain ⟨r, hb, h2, h3, h4, h5⟩ := ownBlk H
  have hxl := H.1
  refine gStoreCell k v hb hg hd ho hx hy ht hv (by rw [List.length_append]; omega) h1 (fun w' hb' hg' => h w' ?_ hg')
  rw [spliced_set _ _ _ (by rw [List.length_append]; omega), List.set_append_left _ _ (by omega)] at hb'
  exact blkOwn hb' h2 h3 h4 (by simpa using h5) (by simpa using hxl)
end Agg
end
section
/-
  APPEND to a fresh literal: append([]T{}, xs...), in a region that draws its order. Over any program.
-/
namespace Agg
open Go Go.RowKit
theorem run_append_fresh {P : Program} {t e : TypeId} {size bytes : Nat} {z : Value} (T : TI P t e size bytes z) (ty : TypeId) (w : World) {g b0 : Nat} (hb : b0 ≤ g) (hB : Blk w g e []) {xv : Value} {m : Nat} {news : List Value}
    (hsl : SlR w xv size m news) (h1 : ∀ u ∈ news, u.oneCell' = true) (h63 : m ≤ maxLen) (hbytes : m * bytes ≤ 140737488355328) :
    ∃ v' w', (Builtin.append_ #[t, t] ty #[.slice (some ⟨g, 0, none⟩) 0 0, xv]).run P w = .ok v' w' ∧ w'.ownsRow (Nat.min b0 w.heap.size) e size v' m news ∧ Below w.heap.size w w' := by
  have hown : w.ownsRow (Nat.min b0 w.heap.size) e size (.slice (some ⟨g, 0, none⟩) 0 0) 0 [] := by
    refine ⟨by simp, .inr ⟨g, 0, #[], rfl, Nat.le_trans (Nat.min_le_left _ _) hb, hB, Nat.le_refl _, by decide, by simp, by simp⟩⟩
  obtain ⟨i, hi, hz, hs, hb2⟩ := T.info
  rcases hsl.2 with ⟨rfl, rfl⟩ | ⟨x, cap, rfl, h3, h4, h5⟩
  · have hn : news = [] := List.eq_nil_of_length_eq_zero (by rw [hsl.1]; simp)
    subst hn
    exact ⟨_, w, run_append_owned_none w _ t ty e i size T.ht hi _ 0 [] hown, hown, Below.refl _ _⟩
  · rcases Nat.eq_zero_or_pos m with hm | hm
    · subst hm
      have hn : news = [] := List.eq_nil_of_length_eq_zero (by rw [hsl.1]; simp)
      subst hn
      refine ⟨_, w, ?_, hown, Below.refl _ _⟩
      simp [Builtin.append_, run_underlying T.ht, Go.sizeOf, typeInfo, hi, Builtin.lenOf, Builtin.firstCells, storeCells, loadCells, loadCellsFrom]
    · have hsz := T.hsz
      obtain ⟨v', w', hr, h2, hg, _⟩ := run_append_sl T ty w (Nat.min b0 w.heap.size) hown hsl h1 (by omega) (by simpa using hbytes) (Nat.min_le_right _ _)
      have hm' : m ≤ 9223372036854775807 := by unfold maxLen at h63; omega
      have hrun := run_append_grow (P := P) w t ty e i z T.ht hi hz ⟨g, 0, none⟩ 0 0 [] (by simp) (by simp) x m cap news (by rw [hs]; exact hsl.1) h5 (by omega) (by omega)
          (by rw [hb2]; exact growslice_fits (by omega) (by simpa using hbytes))
      rw [hrun] at hr
      cases hr
      refine ⟨_, _, hrun, by simpa using h2, ?_⟩
      exact ((Below.refl _ w).drew).alloc (Nat.le_refl _) _
/-- a call of a function of the program enters it -/
theorem enters {P : Program} {f : FuncId} {fn : Func} {c : Code} (hf : P.funcs[f]? = some fn) (hname : (fn.name == "runtime.NumGoroutine") = false) (hb : fn.body = some c) (args : Array Value) (w : World) : (callFunc f args).run P w = .ok (.enter f args) w := by
  have h1 : fn.name ≠ "runtime.NumGoroutine" := by simpa using hname
  simp [callFunc, hf, h1, hb, Go.mark]
theorem noP {Q : Exit → Act → World → Prop} {a : Act} {w : World} (h : Q .normal a w) : NoP Q .normal a w := h
/-- a row that was made: it lies beyond b0 -/
def OwnSl (b0 : Nat) (e : TypeId) (size m : Nat) (cs : List Value) (v : Value) (w : World) : Prop := w.ownsRow b0 e size v m cs
theorem OwnSl.stable (b0 : Nat) (e : TypeId) (size m : Nat) (cs : List Value) : Stable (OwnSl b0 e size m cs) := fun _ _ _ h hb => own_keep h hb
section
variable {n kk : Nat} {P : Program} {l rest : List Oper} {W : World} {l0 : List Value} {ds : List Deferred} {acc : List R} {o : Oper} {fin : List R → Prop}
/-- append([]T{}, xs...) -/
theorem chAppendNew {t e : TypeId} {size bytes : Nat} {z : Value} (T : TI P t e size bytes z) {ts : Nat} {x : Operand} (j : Nat) {xv : Value} (m : Nat) (news : List Value) (hsl : SlR W xv size m news)
    (h1 : ∀ u ∈ news, u.oneCell' = true) (h63 : m ≤ maxLen) (hbytes : m * bytes ≤ 140737488355328)
    (ho : o.op = .call { callee := .builtin .append, args := #[.tmp ts, x], argTypes := #[t, t] }) (hd : depL o j = true) (hj : look kk acc j = some (.op (NewSl W.heap.size e 0 []))) (ht : (l[j]?).map (·.dst) = some (some ts))
    (hx : rd (l.take n) l0 kk acc o x = some xv) (hw : wants kk acc o = some true) (hk : gOk l o = true)
    (h : ChainR n P l.toArray W ⟨l0.toArray, ds⟩ (kk + 1) ((.op (OwnSl W.heap.size e size m news)) :: acc) rest fin) : ChainR n P l.toArray W ⟨l0.toArray, ds⟩ kk acc (o :: rest) fin :=
  chRun (r := .op (OwnSl W.heap.size e size m news)) (by rw [ho]; rfl) hw hk (OwnSl.stable _ _ _ _ _) (fun a w hh => by
    obtain ⟨v, hv, ⟨g, rfl, hg0, hgB⟩⟩ := hh.op j ts hd hj ht
    have hx' := hh.rd hx
    obtain ⟨v', w', hr, ho', hb'⟩ := run_append_fresh T o.type w hg0 hgB (hsl.keep hh.below) h1 h63 hbytes
    refine ⟨v', w', ?_, ?_, hb'⟩
    · simp [execOp, ho, resolve, hv, hx', invoke, builtin, hr]
    · rw [show Nat.min W.heap.size w.heap.size = W.heap.size from Nat.min_eq_left hh.below.size] at ho'
      exact ho') h
end
end Agg
end
