/-
  THE WALKS OF LAYER 4 (span), ninth part: lies, guesses.
-/
import Derived.Test.YtcedalenjcbnmaaSpan8
import Derived.Test.YtcedalenjcbnmaaHeld
import Derived.Deep.Cut
namespace Go.Proofs.Ytcedalenjcbnmaa
open Go.ChangeShapes Go.WideShapes Go.ChangeAt Go.RowKit Agg
/-- a span and a number by which something in it is told -/
abbrev Gs := Sp × Int
def GsOk (g : Gs) : Prop := I64 g.1.1 ∧ I64 g.1.2 ∧ 0 ≤ g.2 ∧ g.2 < 18446744073709551616
def liesI (g : Gs) : Int := if g.1.2 - g.1.1 = 18446744073709551615 then w64 (g.1.1 + g.2) else g.1.1 + g.2 % (g.1.2 - g.1.1 + 1)
theorem lies_in (g : Gs) (h : GsOk g) (hle : g.1.1 ≤ g.1.2) : g.1.1 ≤ liesI g ∧ liesI g ≤ g.1.2 := by
  unfold GsOk I64 at h
  unfold liesI
  split
  · have := w64_I (g.1.1 + g.2)
    unfold I64 at this
    omega
  · have h1 : 0 ≤ g.2 % (g.1.2 - g.1.1 + 1) := Int.emod_nonneg _ (by omega)
    have h2 := Int.emod_lt_of_pos g.2 (show 0 < g.1.2 - g.1.1 + 1 by omega)
    omega
theorem fo_Gs_0 : Agg.fieldOff Try.prog 33 0 = some 0 := by kernel_rfl
theorem fo_Gs_1 : Agg.fieldOff Try.prog 33 1 = some 2 := by kernel_rfl
set_option maxHeartbeats 1000000 in
theorem lies_any (a b t : Int) (w : World) (h : GsOk ((a, b), t)) (hle : a ≤ b) :
    Calls Try.prog 14 #[.agg #[.int .i64 a, .int .i64 b, .int .u64 t]] w fun e w' => e = .returned (.int .i64 (liesI ((a, b), t))) ∧ Below w.heap.size w w' := by
  obtain ⟨m, hm⟩ : ∃ m, m = IntKind.u64.wrap (IntKind.u64.wrap (IntKind.u64.wrap b - IntKind.u64.wrap a) + 1) := ⟨_, rfl⟩
  have hcase : (m = 0 ∧ w64 (IntKind.u64.wrap (IntKind.u64.wrap a + t)) = liesI ((a, b), t)) ∨ (0 < m ∧ w64 (IntKind.u64.wrap (IntKind.u64.wrap a + t % m)) = liesI ((a, b), t)) := by
    unfold GsOk I64 at h
    simp only at h
    have e0 : ∀ z, IntKind.u64.wrap z = z % 18446744073709551616 := fun z => by simp [IntKind.wrap, IntKind.bits, IntKind.signed]
    simp only [e0] at hm ⊢
    unfold liesI w64
    simp only [IntKind.wrap_i64]
    by_cases hz : b - a = 18446744073709551615
    · left
      rw [if_pos hz]
      omega
    · right
      rw [if_neg hz]
      have hm2 : m = b - a + 1 := by omega
      rw [hm2]
      have h1 : 0 ≤ t % (b - a + 1) := Int.emod_nonneg _ (by omega)
      have h2 := Int.emod_lt_of_pos t (show 0 < b - a + 1 by omega)
      generalize t % (b - a + 1) = r at *
      omega
  have HM := Lib.hid hm
  have ht0 : 0 ≤ t := h.2.2.1
  clear hm h
  obtain ⟨z, hz⟩ : ∃ z, z = liesI ((a, b), t) := ⟨_, rfl⟩
  rw [← hz] at hcase ⊢
  clear hz
  have HB := Lib.hid (Below.refl w.heap.size w)
  go_enter Try.func14, Try.ntmps14
  go_wp2_with fail
  refine Agg.wp_at fun w1 hw1 => ?_
  have hb : Below w.heap.size w w1 := by rw [hw1.out]; repeat (first | exact Below.refl _ _ | refine Agg.bel_drew ?_ | refine Agg.bel_alloc ?_ _)
  replace HB := Lib.hid (HB.out.trans (hb.mono HB.out.size))
  clear hb
  have HG : Hid (Blk w1 w.heap.size 33 [.int .i64 a, .int .i64 b, .int .u64 t]) := by show Blk _ _ _ _; rw [hw1.out]; exact Blk.new w 33 #[.int .i64 a, .int .i64 b, .int .u64 t]
  clear hw1
  refine Agg.chainR 14 (by kernel_rfl) (by kernel_rfl) ?_
  simp only [List.take_succ_cons, List.take_zero, List.drop_succ_cons, List.drop_zero]
  refine Agg.chFA fo_Gs_1 rfl rfl rfl rfl ?_
  refine Agg.chLoadB HG.out (by decide +kernel) rfl rfl (by rfl) rfl rfl ?_
  refine Agg.chFA fo_Gs_0 rfl rfl rfl rfl ?_
  refine Agg.chFA fo_Span_1 rfl rfl rfl rfl ?_
  refine Agg.chLoadB HG.out (by decide +kernel) rfl rfl (by rfl) rfl rfl ?_
  refine Agg.chInt _ rfl (by kernel_rfl) Try.underlying28 rfl rfl rfl rfl ?_
  refine Agg.chFA fo_Gs_0 rfl rfl rfl rfl ?_
  refine Agg.chFA fo_Span_0 rfl rfl rfl rfl ?_
  refine Agg.chLoadB HG.out (by decide +kernel) rfl rfl (by rfl) rfl rfl ?_
  refine Agg.chInt _ rfl (by kernel_rfl) Try.underlying28 rfl rfl rfl rfl ?_
  refine Agg.chAr rfl rfl rfl rfl rfl rfl ?_
  refine Agg.chAr (r := m) rfl rfl rfl (congrArg some HM.out.symm) rfl rfl ?_
  refine Agg.chAssign rfl rfl rfl rfl ?_
  refine Agg.chAssign rfl rfl rfl rfl ?_
  refine Agg.chEnd ?_
  intro vs w2 hb _
  refine Agg.wpNil ?_
  simp only [List.reverse, List.reverseAux, Agg.fill, List.set_cons_succ, List.set_cons_zero]
  replace HB := Lib.hid (HB.out.trans (hb.mono HB.out.size))
  replace HG := Lib.hid (HG.out.keep hb)
  clear hb
  have xHG_0 := HG.out.cell 0
  have xHG_1 := HG.out.cell 1
  have xHG_2 := HG.out.cell 2
  have lHG := HG.out.lt
  simp only [List.getElem?_cons_zero, List.getElem?_cons_succ] at xHG_0 xHG_1 xHG_2
  rcases hcase with ⟨rfl, hc⟩ | ⟨hm0, hc⟩
  · have HC := Lib.hid hc
    clear hc
    go_wp2_with fail
    go_ret
    exact ⟨by rw [← HC.out, ← w64_eq]; rfl, HB.out⟩
  · have HC := Lib.hid hc
    clear hc
    go_wp2_with fail
    go_ret
    exact ⟨by rw [← HC.out, ← w64_eq]; rfl, HB.out⟩
/-- the cells of guesses -/
def gsC (l : List Gs) : List Value := l.flatMap fun g => [.int .i64 g.1.1, .int .i64 g.1.2, .int .u64 g.2]
theorem gsC_length (l : List Gs) : (gsC l).length = l.length * 3 := by
  induction l with
  | nil => rfl
  | cons a l ih => simp [gsC] at ih ⊢; omega
theorem gsC_cons (g : Gs) (l : List Gs) : gsC (g :: l) = .int .i64 g.1.1 :: .int .i64 g.1.2 :: .int .u64 g.2 :: gsC l := rfl
theorem gsC_get (l : List Gs) : ∀ (k : Nat) (h : k < l.length), (gsC l)[k * 3]? = some (.int .i64 l[k].1.1) ∧ (gsC l)[k * 3 + 1]? = some (.int .i64 l[k].1.2) ∧ (gsC l)[k * 3 + 2]? = some (.int .u64 l[k].2) := by
  induction l with
  | nil => intro k h; simp at h
  | cons a l ih =>
    intro k h
    cases k with
    | zero => exact ⟨rfl, rfl, rfl⟩
    | succ k =>
      have := ih k (by simpa using h)
      rw [gsC_cons, show (k + 1) * 3 = k * 3 + 1 + 1 + 1 by omega]
      simpa using this
/-- a slice that reads as guesses -/
def Gss (w : World) (v : Value) (l : List Gs) : Prop := SlR w v 3 l.length (gsC l)
theorem Gss.keep {w w' : World} {v : Value} {l : List Gs} (h : Gss w v l) (hb : Below w.heap.size w w') : Gss w' v l := SlR.keep h hb
theorem Gss.shape {w : World} {v : Value} {l : List Gs} (h : Gss w v l) : ∃ x cap, v = .slice x l.length cap ∧ l.length ≤ cap ∧ cap ≤ maxLen := SlR.shape h
theorem Gss.at {w : World} {x : Option Addr} {n cap : Nat} {l : List Gs} (h : Gss w (.slice x n cap) l) {k : Nat} (hk : k < l.length) :
    ∃ b o, x = some ⟨b, o, none⟩ ∧ w.cell? ⟨b, o + k * 3, none⟩ = some (.int .i64 l[k].1.1) ∧ w.cell? ⟨b, o + k * 3 + 1, none⟩ = some (.int .i64 l[k].1.2) ∧ w.cell? ⟨b, o + k * 3 + 2, none⟩ = some (.int .u64 l[k].2) ∧ b < w.heap.size := by
  obtain ⟨b, o, cap, hv, h1, h2, h3, h4⟩ := SlR.pos h (by decide) (by omega)
  simp only [Value.slice.injEq] at hv
  have := gsC_get l k hk
  exact ⟨b, o, hv.1, h3 _ _ this.1, by have := h3 _ _ this.2.1; rwa [← Nat.add_assoc] at this, by have := h3 _ _ this.2.2; rwa [← Nat.add_assoc] at this, h4⟩
def gsel (l : List Gs) : List Gs := (l.take 20).filter fun g => decide (g.1.1 ≤ g.1.2)
theorem gsel_in (l : List Gs) (k : Nat) (h : k < l.length) (h20 : k < 20) (hle : l[k].1.1 ≤ l[k].1.2) : gsel (l.take (k + 1)) = gsel (l.take k) ++ [l[k]] := by
  unfold gsel
  rw [List.take_take, List.take_take, Nat.min_eq_right (by omega), Nat.min_eq_right (by omega), List.take_succ_eq_append_getElem h, List.filter_append]
  simp [hle]
theorem gsel_out (l : List Gs) (k : Nat) (h : k < l.length) (ho : ¬ (k < 20 ∧ l[k].1.1 ≤ l[k].1.2)) : gsel (l.take (k + 1)) = gsel (l.take k) := by
  unfold gsel
  rw [List.take_take, List.take_take]
  by_cases h20 : k < 20
  · rw [Nat.min_eq_right (by omega), Nat.min_eq_right (by omega), List.take_succ_eq_append_getElem h, List.filter_append]
    have : ¬ l[k].1.1 ≤ l[k].1.2 := fun e => ho ⟨h20, e⟩
    simp [this]
  · rw [Nat.min_eq_left (by omega), Nat.min_eq_left (by omega)]
theorem gsel_few (l : List Gs) : (gsel l).length ≤ 20 := Nat.le_trans (List.length_filter_le _ _) (by rw [List.length_take]; omega)
theorem gsel_mem (l : List Gs) : ∀ g ∈ gsel l, g ∈ l ∧ g.1.1 ≤ g.1.2 := by
  intro g hg
  have := List.mem_filter.1 hg
  exact ⟨List.mem_of_mem_take this.1, by simpa using this.2⟩
def iC (l : List Int) : List Value := l.map fun z => .int .i64 z
theorem tiI : TI Try.prog 25 2 1 8 (.int .i64 0) := ⟨by kernel_rfl, by kernel_rfl, rfl, by decide⟩
/-- what guesses tells: rows of memory that is new -/
def GR (l : List Gs) (b0 : Nat) (e : Ending) (w' : World) : Prop := ∃ a b, e = .returned (.tuple #[a, b]) ∧ w'.ownsRow b0 31 2 a (gsel l).length (spC ((gsel l).map (·.1))) ∧ w'.ownsRow b0 2 1 b (gsel l).length (iC ((gsel l).map liesI))
set_option maxHeartbeats 1000000 in
theorem guesses_any (l : List Gs) (v : Value) (w : World) (hv : Gss w v l) (hl : ∀ g ∈ l, GsOk g) :
    Calls Try.prog 12 #[v] w fun e w' => GR l w.heap.size e w' ∧ Below w.heap.size w w' := by
  obtain ⟨x, cap, rfl, _, hm⟩ := hv.shape
  unfold maxLen at hm
  have HV := Lib.hid hv
  have HL := Lib.hid hl
  clear hv hl
  have HB := Lib.hid (Below.refl w.heap.size w)
  go_enter Try.func12, Try.ntmps12
  go_wp2_with fail
  go_loopw [10, 4, 5] (fun i a b wr => ∃ k : Nat, k ≤ l.length ∧ i = .int .i64 k ∧ Below w.heap.size w wr ∧ wr.ownsRow w.heap.size 31 2 a (gsel (l.take k)).length (spC ((gsel (l.take k)).map (·.1))) ∧ wr.ownsRow w.heap.size 2 1 b (gsel (l.take k)).length (iC ((gsel (l.take k)).map liesI))) (fun i _ _ _ => l.length - (intOf i).toNat)
  case atStart => exact ⟨0, by omega, rfl, HB.out, World.ownsRow_nil _ _ _ _, World.ownsRow_nil _ _ _ _⟩
  case round =>
    obtain ⟨k, hk, rfl, hb, ha, hbb⟩ := hrel
    replace HB := Lib.hid hb
    have HO1 := Lib.hid ha
    have HO2 := Lib.hid hbb
    clear hb ha hbb
    by_cases hlt : k < l.length
    · obtain ⟨b, o, rfl, c1, c2, c3, _⟩ := (HV.out.keep HB.out).at hlt
      by_cases hin : k < 20 ∧ l[k].1.1 ≤ l[k].1.2
      · obtain ⟨h20, hle⟩ := hin
        have HLE := Lib.hid hle
        have HS := Lib.hid (gsel_in l k hlt h20 hle)
        have HN := Lib.hid (gsel_few (l.take k))
        have h3 : k * 3 < 60 := by omega
        go_upto_region 7 with (fail)
        have hO4 := HO1.out.lt
        have hO5 := HO2.out.lt
        refine Agg.wp_at fun w1 hw1 => ?_
        have hb : Below wr.heap.size wr w1 := by rw [hw1.out]; repeat (first | exact Below.refl _ _ | refine Agg.bel_drew ?_ | refine Agg.bel_alloc ?_ _)
        replace HB := Lib.hid (HB.out.trans (hb.mono HB.out.size))
        replace HO1 := Lib.hid (HO1.out.keep hb)
        replace HO2 := Lib.hid (HO2.out.keep hb)
        clear hb
        have HG : Hid (Blk w1 wr.heap.size 33 [.int .i64 l[k].1.1, .int .i64 l[k].1.2, .int .u64 l[k].2]) := by show Blk _ _ _ _; rw [hw1.out]; exact Blk.new wr 33 #[.int .i64 l[k].1.1, .int .i64 l[k].1.2, .int .u64 l[k].2]
        clear hw1
        have HOK : Hid (GsOk ((l[k].1.1, l[k].1.2), l[k].2)) := Lib.hid (HL.out _ (List.getElem_mem hlt))
        have ha1 : u4.ownBlock = none ∨ u4.ownBlock ≠ u5.ownBlock := elem_apart HO1.out HO2.out (by decide)
        have ha2 : u5.ownBlock = none ∨ u5.ownBlock ≠ u4.ownBlock := elem_apart HO2.out HO1.out (by decide)
        have hn4 : some wr.heap.size ≠ u4.ownBlock := fun e => by have := (hO4 _ e.symm).2; omega
        have hn5 : some wr.heap.size ≠ u5.ownBlock := fun e => by have := (hO5 _ e.symm).2; omega
        clear hO4 hO5
        refine Agg.heldBegin (S := fun z => Blk z wr.heap.size 33 [.int .i64 l[k].1.1, .int .i64 l[k].1.2, .int .u64 l[k].2]) 12 (by kernel_rfl) rfl ?_
        have hb0 : Below w1.heap.size w1 w1.drew := bel_drew (Below.refl _ _)
        generalize w1.drew = z0 at hb0 ⊢
        have hb := hb0
        replace HB := Lib.hid (HB.out.trans (hb.mono HB.out.size))
        replace HO1 := Lib.hid (HO1.out.keep hb)
        replace HO2 := Lib.hid (HO2.out.keep hb)
        replace HG := Lib.hid (HG.out.keep hb)
        clear hb
        refine Agg.heldTake (i := 0) (by decide +kernel) rfl rfl rfl (v := u4) (fun z _ => Agg.run_move rfl rfl) HG.out ?_
        refine Agg.heldTake (i := 1) (by decide +kernel) rfl rfl rfl (fun z _ => Agg.run_fa fo_Gs_0 rfl (b := wr.heap.size) (f := 0) rfl) HG.out ?_
        refine Agg.heldTake (i := 2) (by decide +kernel) rfl rfl rfl (v := .agg #[.int .i64 l[k].1.1, .int .i64 l[k].1.2]) (fun z hz => by exact Agg.run_rowB 0 2 [.int .i64 l[k].1.1, .int .i64 l[k].1.2] hz rfl rfl (t := 31) (by decide +kernel) rfl rfl) HG.out ?_
        refine Agg.heldTake (i := 5) (by decide +kernel) rfl rfl rfl (v := u5) (fun z _ => Agg.run_move rfl rfl) HG.out ?_
        refine Agg.heldTake (i := 6) (by decide +kernel) rfl rfl rfl (v := .agg #[.int .i64 l[k].1.1, .int .i64 l[k].1.2, .int .u64 l[k].2]) (fun z hz => by exact Agg.run_rowB 0 3 [.int .i64 l[k].1.1, .int .i64 l[k].1.2, .int .u64 l[k].2] hz rfl rfl (t := 33) (by decide +kernel) rfl rfl) HG.out ?_
        have hb1 : Below z0.heap.size z0 (z0.alloc (.cells #[.int .i64 l[k].1.1, .int .i64 l[k].1.2] 31)) := bel_alloc (Below.refl _ _) _
        have hs1 := sl_new z0 #[.int .i64 l[k].1.1, .int .i64 l[k].1.2] 31 1 2 rfl (by decide)
        refine Agg.heldOne (i := 3) (by decide +kernel) rfl rfl rfl (Agg.run_buildSl (e := 31) #[.int .i64 l[k].1.1, .int .i64 l[k].1.2] rfl (by kernel_rfl)) (HG.out.keep hb1) ?_
        generalize z0.alloc (.cells #[.int .i64 l[k].1.1, .int .i64 l[k].1.2] 31) = z1 at hb1 hs1 ⊢
        have hb := hb1
        replace HB := Lib.hid (HB.out.trans (hb.mono HB.out.size))
        replace HO1 := Lib.hid (HO1.out.keep hb)
        replace HO2 := Lib.hid (HO2.out.keep hb)
        replace HG := Lib.hid (HG.out.keep hb)
        clear hb
        refine Agg.heldAppend tiS (.tmp 26) (.tmp 29) (i := 4) (by decide +kernel) rfl rfl rfl rfl w.heap.size (v := u4) rfl HO1.out rfl hs1 (by simp [Value.oneCell']) (by have := HN.out; unfold maxLen; omega) (by have := HN.out; omega) HB.out.size (fun v1 z2 ho1 hg1 hat1 => ⟨(hg1.block _ HG.out.lt hn4).trans HG.out, ?_⟩)
        clear hs1
        have hb2 := grown_below hg1 HB.out.size (own_block HO1.out)
        replace HO2 := Lib.hid (HO2.out.kept hg1 ha2)
        have ho1b := ho1
        have hG2 := (hg1.block _ HG.out.lt hn4).trans HG.out
        replace HG : Hid (Blk z2 wr.heap.size 33 [.int .i64 l[k].1.1, .int .i64 l[k].1.2, .int .u64 l[k].2]) := Lib.hid hG2
        replace HB := Lib.hid (HB.out.trans hb2)
        replace HO1 := Lib.hid ho1b
        have hv1 : v1.ownBlock = none ∨ v1.ownBlock ≠ u5.ownBlock := elem_apart HO1.out HO2.out (by decide)
        clear ho1 ho1b hG2 hb2 hg1 hat1 hb1 hb0
        refine Agg.heldCall Try.func14 rfl rfl (i := 7) (args := [.tmp 32]) (by decide +kernel) rfl rfl rfl rfl ((lies_any _ _ _ z2 HOK.out HLE.out).mono ?_)
        rintro e z3 ⟨rfl, hb⟩
        refine ⟨_, rfl, HG.out.keep hb, ?_⟩
        have hb := hb
        replace HB := Lib.hid (HB.out.trans (hb.mono HB.out.size))
        replace HO1 := Lib.hid (HO1.out.keep hb)
        replace HO2 := Lib.hid (HO2.out.keep hb)
        replace HG := Lib.hid (HG.out.keep hb)
        clear hb
        change Held _ _ _ _ _ _ (List.set _ _ (.int .i64 (liesI l[k]))) _ _
        have hb1 : Below z3.heap.size z3 (z3.alloc (.cells #[.int .i64 (liesI l[k])] 2)) := bel_alloc (Below.refl _ _) _
        have hs1 := sl_new z3 #[.int .i64 (liesI l[k])] 2 1 1 rfl (by decide)
        refine Agg.heldOne (i := 8) (by decide +kernel) rfl rfl rfl (Agg.run_buildSl (e := 2) #[.int .i64 (liesI l[k])] rfl (by kernel_rfl)) (HG.out.keep hb1) ?_
        generalize z3.alloc (.cells #[.int .i64 (liesI l[k])] 2) = z4 at hb1 hs1 ⊢
        have hb := hb1
        replace HB := Lib.hid (HB.out.trans (hb.mono HB.out.size))
        replace HO1 := Lib.hid (HO1.out.keep hb)
        replace HO2 := Lib.hid (HO2.out.keep hb)
        replace HG := Lib.hid (HG.out.keep hb)
        clear hb
        refine Agg.heldAppend tiI (.tmp 31) (.tmp 34) (i := 9) (by decide +kernel) rfl rfl rfl rfl w.heap.size (v := u5) rfl HO2.out rfl hs1 (by simp [Value.oneCell']) (by have := HN.out; unfold maxLen; omega) (by have := HN.out; omega) HB.out.size (fun v2 z5 ho2 hg2 hat2 => ⟨(hg2.block _ HG.out.lt hn5).trans HG.out, ?_⟩)
        have hb2 := grown_below hg2 HB.out.size (own_block HO2.out)
        replace HO1 := Lib.hid (HO1.out.kept hg2 hv1)
        replace HG := Lib.hid ((hg2.block _ HG.out.lt hn5).trans HG.out)
        replace HB := Lib.hid (HB.out.trans hb2)
        replace HO2 := Lib.hid ho2
        clear hs1 ho2 hb2 hg2 hat2 hb1 hv1
        refine Agg.heldOne (i := 10) (v := v1) (by decide +kernel) rfl rfl rfl (Agg.run_assign rfl rfl) HG.out ?_
        refine Agg.heldOne (i := 11) (v := v2) (by decide +kernel) rfl rfl rfl (Agg.run_assign rfl rfl) HG.out ?_
        refine Agg.heldDone (by decide +kernel) ?_
        simp only [List.set_cons_succ, List.set_cons_zero]
        have e1 : spC ((gsel (l.take (k + 1))).map (·.1)) = spC ((gsel (l.take k)).map (·.1)) ++ [.int .i64 l[k].1.1, .int .i64 l[k].1.2] := by rw [HS.out, List.map_append, spC_append]; rfl
        have e2 : iC ((gsel (l.take (k + 1))).map liesI) = iC ((gsel (l.take k)).map liesI) ++ [.int .i64 (liesI l[k])] := by rw [HS.out, List.map_append]; simp [iC]
        have e3 : (gsel (l.take (k + 1))).length = (gsel (l.take k)).length + 1 := by rw [HS.out, List.length_append]; rfl
        have E1 := Lib.hid e1
        have E2 := Lib.hid e2
        have E3 := Lib.hid e3
        clear e1 e2 e3
        go_wp2_with fail
        go_roundw
        case rel => exact ⟨k + 1, by omega, by go_num, HB.out, by rw [E1.out, E3.out]; exact HO1.out, by rw [E2.out, E3.out]; exact HO2.out⟩
        case measure => simp [intOf]; omega
      · have HS := Lib.hid (gsel_out l k hlt hin)
        have hb1 : Below wr.heap.size wr (wr.alloc (.cells #[.int .i64 l[k].1.1, .int .i64 l[k].1.2, .int .u64 l[k].2] 33)) := bel_alloc (Below.refl _ _) _
        have HB1 := Lib.hid hb1
        clear hb1
        by_cases h20 : k < 20
        · have hle : ¬ l[k].1.1 ≤ l[k].1.2 := fun e => hin ⟨h20, e⟩
          clear hin
          go_wp2_with fail
          go_roundw
          case rel => exact ⟨k + 1, by omega, by go_num, bel_alloc HB.out _, by rw [HS.out]; exact HO1.out.keep HB1.out, by rw [HS.out]; exact HO2.out.keep HB1.out⟩
          case measure => simp [intOf]; omega
        · clear hin
          go_wp2_with fail
          go_roundw
          case rel => exact ⟨k + 1, by omega, by go_num, bel_alloc HB.out _, by rw [HS.out]; exact HO1.out.keep HB1.out, by rw [HS.out]; exact HO2.out.keep HB1.out⟩
          case measure => simp [intOf]; omega
    · obtain rfl : k = l.length := by omega
      go_wp2_with fail
      rw [List.take_length] at HO1 HO2
      exact bodyPost_ret (v := .tuple #[u4, u5]) (by simp [results, Try.results12, go_sem]) rfl ⟨⟨u4, u5, rfl, HO1.out, HO2.out⟩, HB.out⟩
end Go.Proofs.Ytcedalenjcbnmaa
