/-
  FILES: small functions; marks of pages.
-/
import Derived.Test.YtgfmpkcgkjpgnaaFi1
import Derived.Test.YtgfmpkcgkjpgnaaRow
import Derived.Test.YtgfmpkcgkjpgnaaFdDvN
section
namespace Fi
open Go Go.RowKit Agg Pg Dv
/-- which pages are marked -/
def marksC (l : List Int) : List Value := (List.range 256).map fun p => .bool (inB l p)
theorem marksC_length (l : List Int) : (marksC l).length = 256 := by simp [marksC]
theorem marksC_at (l : List Int) (p : Nat) (h : p < 256) : (marksC l)[p]? = some (.bool (inB l p)) := by
  unfold marksC
  rw [List.getElem?_map, List.getElem?_range h]; rfl
theorem marksC_snoc (l : List Int) (p : Nat) (h : p < 256) : marksC (l ++ [(p : Int)]) = (marksC l).set p (.bool true) := by
  apply List.ext_getElem?
  intro k
  by_cases hk : k < 256
  · rw [marksC_at _ _ hk, List.getElem?_set, marksC_at _ _ hk, marksC_length, if_pos h, inB_app]
    by_cases hpk : p = k
    · subst hpk; rw [if_pos rfl]; simp [inB]
    · rw [if_neg hpk]
      have : inB [(p : Int)] k = false := by simp [inB]; omega
      rw [this, Bool.or_false]
  · rw [List.getElem?_eq_none (by rw [marksC_length]; omega), List.getElem?_eq_none (by rw [List.length_set, marksC_length]; omega)]
theorem marksC_same (l : List Int) (z : Int) (h : z < 0 ∨ 256 ≤ z ∨ inB l z.toNat = true) : marksC (l ++ [z]) = marksC l := by
  apply List.ext_getElem?
  intro k
  by_cases hk : k < 256
  · rw [marksC_at _ _ hk, marksC_at _ _ hk, inB_app]
    have hz : inB [z] k = decide (z = (k : Int)) := by simp [inB]
    rw [hz]
    by_cases e : z = (k : Int)
    · subst e
      have : inB l k = true := by
        rcases h with h | h | h
        · omega
        · omega
        · simpa using h
      rw [this]; rfl
    · rw [decide_eq_false e, Bool.or_false]
  · rw [List.getElem?_eq_none (by rw [marksC_length]; omega), List.getElem?_eq_none (by rw [marksC_length]; omega)]
end Fi
namespace Go.Proofs.Ytgfmpkcgkjpgnaa
open Go.ChangeShapes Go.WideShapes Go.ChangeAt Go.RowKit Agg Pg Dv Fi

theorem size_any (p : Int) (w : World) (q : Bool) (hq : sizeB p = q) :
    Calls Try.prog 33 #[.int .i64 p] w fun e w' => e = .returned (.bool q) ∧ Below w.heap.size w w' := by
  have HQ := Lib.hid hq
  unfold sizeB at HQ
  clear hq
  have HB := Lib.hid (Below.refl w.heap.size w)
  go_enter Try.func33, Try.ntmps33
  by_cases h1 : p ≥ 24
  · by_cases h2 : p ≤ 256
    · obtain rfl : q = true := by rw [← HQ.out]; simp; omega
      go_wp2_with fail
      go_ret
      exact ⟨rfl, HB.out⟩
    · obtain rfl : q = false := by rw [← HQ.out]; simp; omega
      go_wp2_with fail
      go_ret
      exact ⟨rfl, HB.out⟩
  · obtain rfl : q = false := by rw [← HQ.out]; simp; omega
    go_wp2_with fail
    go_ret
    exact ⟨rfl, HB.out⟩
theorem rpages_any (p : Int) (w : World) (q : Bool) (hq : sizeB p = q) :
    Calls Try.prog 19 #[.int .i64 p] w fun e w' => e = .returned (.bool q) ∧ Below w.heap.size w w' := by
  have HQ := Lib.hid hq
  unfold sizeB at HQ
  clear hq
  have HB := Lib.hid (Below.refl w.heap.size w)
  go_enter Try.func19, Try.ntmps19
  by_cases h1 : p ≥ 24
  · by_cases h2 : p ≤ 256
    · obtain rfl : q = true := by rw [← HQ.out]; simp; omega
      go_wp2_with fail
      go_ret
      exact ⟨rfl, HB.out⟩
    · obtain rfl : q = false := by rw [← HQ.out]; simp; omega
      go_wp2_with fail
      go_ret
      exact ⟨rfl, HB.out⟩
  · obtain rfl : q = false := by rw [← HQ.out]; simp; omega
    go_wp2_with fail
    go_ret
    exact ⟨rfl, HB.out⟩
theorem need_any (n : Int) (h1 : -9223372036854775808 ≤ n) (h2 : n ≤ 9223372036854775807) (w : World) :
    Calls Try.prog 16 #[.int .i64 n] w fun e w' => e = .returned (.int .i64 (needN n)) ∧ Below w.heap.size w w' := by
  obtain ⟨r, hr⟩ : ∃ r, needN n = r := ⟨_, rfl⟩
  rw [hr]
  unfold needN at hr
  have HR := Lib.hid hr
  clear hr
  have HB := Lib.hid (Below.refl w.heap.size w)
  go_enter Try.func16, Try.ntmps16
  by_cases h3 : n < 1
  · obtain rfl : r = 0 := by rw [← HR.out, if_pos h3]
    go_wp2_with fail
    go_ret
    exact ⟨rfl, HB.out⟩
  · have hrr := HR.out
    rw [if_neg h3] at hrr
    go_upto_region 3 with (fail)
    refine Agg.listR 5 (by kernel_rfl) ?_
    simp only [List.take_succ_cons, List.take_zero, List.drop_succ_cons, List.drop_zero]
    refine Agg.chMove rfl rfl rfl rfl ?_
    refine Agg.chAr64 rfl rfl rfl rfl (by omega) (by omega) rfl rfl ?_
    refine Agg.chQuo ((n - 1) / 120) rfl rfl rfl (by decide) (by rw [IntKind.wrap_i64, Int.tdiv_eq_ediv_of_nonneg (by omega)]; omega) rfl rfl ?_
    refine Agg.chAr64 rfl rfl rfl rfl (by omega) (by omega) rfl rfl ?_
    refine Agg.chAssign rfl rfl rfl rfl ?_
    refine Agg.chEnd ?_
    intro vs w1 hb _
    show Exit.then _ _ Exit.normal _ _
    simp only [List.reverse, List.reverseAux, Agg.fill, List.set_cons_succ, List.set_cons_zero]
    replace HB := Lib.hid (HB.out.trans (hb.mono HB.out.size))
    clear hb
    rw [hrr]
    go_wp2_with fail
    go_ret
    exact ⟨rfl, HB.out⟩
theorem rneed_any (n : Int) (h1 : -9223372036854775808 ≤ n) (h2 : n ≤ 40000) (w : World) :
    Calls Try.prog 17 #[.int .i64 n] w fun e w' => e = .returned (.int .i64 (needN n)) ∧ Below w.heap.size w w' := by
  obtain ⟨r, hr⟩ : ∃ r, needN n = r := ⟨_, rfl⟩
  rw [hr]
  have HR := Lib.hid hr
  clear hr
  have HB := Lib.hid (Below.refl w.heap.size w)
  go_enter Try.func17, Try.ntmps17
  go_wp2_with fail
  go_loopw [0, 3] (fun s0 s3 wr => ∃ (m : Int) (k : Nat), m ≤ 40000 ∧ -9223372036854775808 ≤ m ∧ s0 = .int .i64 m ∧ s3 = .int .i64 k ∧ (k : Int) + needN m = r ∧ (m : Int) + 120 * k ≤ 40120 ∧ k ≤ 400 ∧ wr = w) (fun s0 _ _ => (intOf s0).toNat)
  case atStart => exact ⟨n, 0, h2, h1, rfl, rfl, by simpa using HR.out, by omega, by omega, rfl⟩
  case round =>
    obtain ⟨m, k, h3, h4, rfl, rfl, h5, h6, h7, rfl⟩ := hrel
    have H5 := Lib.hid h5
    clear h5
    by_cases h0 : m > 0
    · have hst := needN_step h0
      have H6 : Hid (((k + 1 : Nat) : Int) + needN (m - 120) = r) := Lib.hid (by have := H5.out; omega)
      clear hst H5
      go_wp2_with fail
      exact ⟨⟨m - 120, k + 1, by omega, by omega, by go_num, by go_num, H6.out, by omega, by omega, trivial⟩, by simp [intOf]; omega⟩
    · have hz : r = k := by have := H5.out; rw [needN_zero (by omega)] at this; omega
      subst hz
      clear H5
      go_wp2_with fail
      go_ret
      exact ⟨rfl, HB.out⟩
theorem ints_at {w : World} {b o n cap : Nat} {l : List Int} (h : Ints w (.slice (some ⟨b, o, none⟩) n cap) l) {k : Nat} (hk : k < l.length) : w.cell? ⟨b, o + k, none⟩ = some (.int .i64 l[k]) := by
  obtain ⟨b', o', cap', hve, _, _, hcm, _⟩ := SlR.pos h (by decide) (by omega)
  simp only [Value.slice.injEq] at hve
  obtain ⟨hve, _⟩ := hve
  cases hve
  exact hcm k _ (by simp [iC, List.getElem?_eq_getElem hk])
theorem Ints.len {w : World} {v : Value} {l : List Int} (h : Ints w v l) : (l.length : Int) ≤ 9223372036854775807 := by
  obtain ⟨_, _, _, h1, h2⟩ := SlR.shape h
  unfold maxLen at h2; omega
theorem inB_take {l : List Int} {k : Nat} (h : k < l.length) (p : Nat) : inB (l.take (k + 1)) p = (inB (l.take k) p || decide (l[k] = (p : Int))) := by
  rw [List.take_succ_eq_append_getElem h, inB_app]; simp [inB]
def hasB (l : List Int) (z : Int) : Bool := l.any fun x => decide (x = z)
theorem hasB_take {l : List Int} {k : Nat} (h : k < l.length) (z : Int) : hasB (l.take (k + 1)) z = (hasB (l.take k) z || decide (l[k] = z)) := by
  unfold hasB; rw [List.take_succ_eq_append_getElem h, List.any_append]; simp
theorem hasB_mono {l : List Int} {k : Nat} (z : Int) (h : hasB (l.take k) z = true) : hasB l z = true := by
  unfold hasB at h ⊢
  obtain ⟨x, h1, h2⟩ := List.any_eq_true.1 h
  exact List.any_eq_true.2 ⟨x, List.mem_of_mem_take h1, h2⟩
theorem hasB_inB (l : List Int) (p : Nat) : hasB l (p : Int) = inB l p := rfl
set_option maxHeartbeats 4000000 in
theorem rhas_any (l : List Int) (v : Value) (z : Int) (w : World) (hv : Ints w v l) (q : Bool) (hq : hasB l z = q) :
    Calls Try.prog 37 #[v, .int .i64 z] w fun e w' => e = .returned (.bool q) ∧ Below w.heap.size w w' := by
  obtain ⟨x, cap, rfl, _⟩ := SlR.shape hv
  have hln := hv.len
  have HV := Lib.hid hv
  have HQ := Lib.hid hq
  clear hv hq
  have HB := Lib.hid (Below.refl w.heap.size w)
  go_enter Try.func37, Try.ntmps37
  go_wp2_with fail
  go_loopw [9] (fun ix wr => ∃ (k : Nat), k ≤ l.length ∧ ix = .int .i64 k ∧ hasB (l.take k) z = false ∧ wr = w) (fun ix _ => l.length - (intOf ix).toNat)
  case atStart => exact ⟨0, by omega, rfl, rfl, rfl⟩
  case round =>
    obtain ⟨k, hk, rfl, hc, rfl⟩ := hrel
    have HC := Lib.hid hc
    clear hc
    by_cases hlt : k < l.length
    · obtain ⟨b, o, cap', hve, _, _, _, _⟩ := SlR.pos HV.out (by decide) (by omega)
      simp only [Value.slice.injEq, true_and] at hve
      obtain ⟨rfl, rfl⟩ := hve
      have hcell := ints_at HV.out hlt
      have hst := hasB_take hlt z
      obtain ⟨y, hy⟩ : ∃ y, l[k] = y := ⟨_, rfl⟩
      rw [hy] at hcell hst
      rw [HC.out, Bool.false_or] at hst
      have HST := Lib.hid hst
      clear hst hy HC
      by_cases h : y = z
      · have hb : (y == z) = true := by simp [h]
        obtain rfl : q = true := by rw [← HQ.out]; exact hasB_mono (k := k + 1) z (by rw [HST.out]; simpa using h)
        clear h
        go_wp2_with fail
        go_ret
        exact ⟨rfl, HB.out⟩
      · have hb : (y == z) = false := by simp [h]
        have H2 : Hid (hasB (l.take (k + 1)) z = false) := Lib.hid (by rw [HST.out]; simpa using h)
        clear h HST
        go_wp2_with fail
        exact ⟨⟨k + 1, by omega, by go_num, H2.out, trivial⟩, by simp [intOf]; omega⟩
    · obtain rfl : k = l.length := by omega
      obtain rfl : q = false := by rw [← HQ.out, ← HC.out, List.take_length]
      go_wp2_with fail
      go_ret
      exact ⟨rfl, HB.out⟩
set_option maxHeartbeats 4000000 in
theorem index_any (l : List Int) (v : Value) (z : Int) (w : World) (hv : Ints w v l) :
    Calls Try.prog 35 #[v, .int .i64 z] w fun e w' => (∃ i : Int, e = .returned (.int .i64 i) ∧ decide (0 ≤ i) = hasB l z) ∧ Below w.heap.size w w' := by
  obtain ⟨x, cap, rfl, _⟩ := SlR.shape hv
  have hln := hv.len
  have HV := Lib.hid hv
  clear hv
  have HB := Lib.hid (Below.refl w.heap.size w)
  go_enter Try.func35, Try.ntmps35
  go_wp2_with fail
  go_loopw [8] (fun ix wr => ∃ (k : Nat), k ≤ l.length ∧ ix = .int .i64 k ∧ hasB (l.take k) z = false ∧ wr = w) (fun ix _ => l.length - (intOf ix).toNat)
  case atStart => exact ⟨0, by omega, rfl, rfl, rfl⟩
  case round =>
    obtain ⟨k, hk, rfl, hc, rfl⟩ := hrel
    have HC := Lib.hid hc
    clear hc
    by_cases hlt : k < l.length
    · obtain ⟨b, o, cap', hve, _, _, _, _⟩ := SlR.pos HV.out (by decide) (by omega)
      simp only [Value.slice.injEq, true_and] at hve
      obtain ⟨rfl, rfl⟩ := hve
      have hcell := ints_at HV.out hlt
      have hst := hasB_take hlt z
      obtain ⟨y, hy⟩ : ∃ y, l[k] = y := ⟨_, rfl⟩
      rw [hy] at hcell hst
      rw [HC.out, Bool.false_or] at hst
      have HST := Lib.hid hst
      clear hst hy HC
      by_cases h : z = y
      · have hb : (z == y) = true := by simp [h]
        have H2 : Hid (hasB l z = true) := Lib.hid (hasB_mono (k := k + 1) z (by rw [HST.out]; simp [h]))
        clear h
        go_wp2_with fail
        go_ret
        exact ⟨⟨_, rfl, by rw [H2.out]; exact decide_eq_true (by omega)⟩, HB.out⟩
      · have hb : (z == y) = false := by simp [h]
        have H2 : Hid (hasB (l.take (k + 1)) z = false) := Lib.hid (by rw [HST.out]; simp; omega)
        clear h HST
        go_wp2_with fail
        exact ⟨⟨k + 1, by omega, by go_num, H2.out, trivial⟩, by first | (simp [intOf]; omega) | omega⟩
    · obtain rfl : k = l.length := by omega
      have H2 : Hid (hasB l z = false) := Lib.hid (by rw [← HC.out, List.take_length])
      go_wp2_with fail
      go_ret
      exact ⟨⟨_, rfl, by rw [H2.out]; rfl⟩, HB.out⟩
set_option maxHeartbeats 4000000 in
theorem contains_any (l : List Int) (v : Value) (z : Int) (w : World) (hv : Ints w v l) (q : Bool) (hq : hasB l z = q) :
    Calls Try.prog 13 #[v, .int .i64 z] w fun e w' => e = .returned (.bool q) ∧ Below w.heap.size w w' := by
  obtain ⟨x, cap, rfl, _⟩ := SlR.shape hv
  have HV := Lib.hid hv
  have HQ := Lib.hid hq
  clear hv hq
  have HB := Lib.hid (Below.refl w.heap.size w)
  go_enter Try.func13, Try.ntmps13
  go_wp2_with fail
  refine (index_any l _ z w HV.out).mono ?_
  rintro e w1 ⟨⟨i, rfl, hi⟩, hb⟩
  replace HB := Lib.hid (HB.out.trans (hb.mono HB.out.size))
  clear hb
  rw [HQ.out] at hi
  have HI := Lib.hid hi
  clear hi
  go_wp2_with fail
  go_ret
  refine ⟨?_, HB.out⟩
  rw [← HI.out]
  rfl
end Go.Proofs.Ytgfmpkcgkjpgnaa
end
section
/-
  ROWS OF ONE'S OWN, cell by cell. Over any program.
-/
namespace Agg
open Go Go.RowKit
theorem ownBlk {w : World} {base : Nat} {e : TypeId} {sz g n cap : Nat} {xs : List Value} (h : w.ownsRow base e sz (.slice (some ⟨g, 0, none⟩) n cap) n xs) : ∃ r, Blk w g e (xs ++ r) ∧ base ≤ g ∧ n ≤ cap ∧ cap ≤ maxLen ∧ (xs ++ r).length = cap * sz := by
  rcases h.2 with ⟨h1, _⟩ | ⟨g', cap', cur, h1, h2, h3, h4, h5, h6, h7⟩
  · cases h1
  · cases h1
    have e : xs ++ cur.toList.drop (n * sz) = cur.toList := by rw [← h7]; exact List.take_append_drop _ _
    refine ⟨cur.toList.drop (n * sz), ?_, h2, h4, h5, ?_⟩
    · rw [e]; simpa [Blk] using h3
    · rw [e]; simpa using h6
theorem blkOwn {w : World} {base : Nat} {e : TypeId} {sz g n cap : Nat} {xs r : List Value} (h : Blk w g e (xs ++ r)) (hb : base ≤ g) (h4 : n ≤ cap) (h5 : cap ≤ maxLen) (h6 : (xs ++ r).length = cap * sz) (hx : xs.length = n * sz) : w.ownsRow base e sz (.slice (some ⟨g, 0, none⟩) n cap) n xs := by
  refine ⟨hx, .inr ⟨g, cap, (xs ++ r).toArray, rfl, hb, h, h4, h5, by simpa using h6, ?_⟩⟩
  simp [← hx]
theorem spliced_set (xs : List Value) (k : Nat) (v : Value) (h : k < xs.length) : spliced xs k [v] = xs.set k v := by
  unfold spliced
  rw [List.set_eq_take_append_cons_drop, if_pos h]
  simp
/-- a row of one's own: where it lies -/
theorem ownPos {w : World} {base : Nat} {e : TypeId} {sz n : Nat} {v : Value} {xs : List Value} (h : w.ownsRow base e sz v n xs) (hn : 0 < n) : ∃ g cap, v = .slice (some ⟨g, 0, none⟩) n cap := by
  rcases h.2 with ⟨_, h1⟩ | ⟨g', cap', cur, h1, h2, h3, h4, h5, h6, h7⟩
  · omega
  · exact ⟨g', cap', h1⟩
variable {P : Program} {Q : Exit → Act → World → Prop} {o : Oper} {w : World} in
/-- a cell of such a row is stored -/
theorem gStoreOwn {ops : Array Oper} {rest : List Oper} {a : Act} {t : TypeId} {x y : Operand} {base : Nat} {e : TypeId} {g n cap : Nat} {xs : List Value} (k : Nat) (v : Value) (H : w.ownsRow base e 1 (.slice (some ⟨g, 0, none⟩) n cap) n xs) (hk : k < n)
    (hg : o.guard = none) (hd : o.dst = none) (ho : o.op = .store t x y) (hx : a.eval x = .pointer (some ⟨g, k, none⟩)) (hy : a.eval y = v)
    (ht : (P.info? t).map (·.size) = some 1) (hv : v.cells.toList = [v]) (h1 : v.oneCell' = true)
    (h : ∀ w', w'.ownsRow base e 1 (.slice (some ⟨g, 0, none⟩) n cap) n (xs.set k v) → w.grownBy w' (some g) → wpList P ops Q rest a w') : wpList P ops Q (o :: rest) a w := by
  obtain ⟨r, hb, h2, h3, h4, h5⟩ := ownBlk H
  have hxl := H.1
  refine gStoreCell k v hb hg hd ho hx hy ht hv (by rw [List.length_append]; omega) h1 (fun w' hb' hg' => h w' ?_ hg')
  rw [spliced_set _ _ _ (by rw [List.length_append]; omega), List.set_append_left _ _ (by omega)] at hb'
  exact blkOwn hb' h2 h3 h4 (by simpa using h5) (by simpa using hxl)
end Agg
end
section
/-
  FILES: marks; what is free, told by an iterator.
-/
namespace Go.Proofs.Ytgfmpkcgkjpgnaa
open Go.ChangeShapes Go.WideShapes Go.ChangeAt Go.RowKit Agg Pg Dv Fi

theorem aiMk : AI Try.prog 119 4 256 1 := ⟨by kernel_rfl, by kernel_rfl⟩
def markB (l : List Int) (z : Int) : Bool := decide (0 ≤ z) && decide (z < 256) && !hasB l z
set_option maxHeartbeats 4000000 in
set_option maxRecDepth 100000 in
theorem mark_any (l : List Int) (z : Int) (g : Nat) (w : World) (hg : Blk w g 119 (marksC l)) (q : Bool) (hq : markB l z = q) :
    Calls Try.prog 64 #[.pointer (some ⟨g, 0, none⟩), .int .i64 z] w fun e w' => e = .returned (.bool q) ∧ Blk w' g 119 (marksC (l ++ [z])) ∧ Below g w w' := by
  have HG := Lib.hid hg
  have HQ := Lib.hid hq
  have hgl := hg.lt
  clear hg hq
  have HB := Lib.hid (Below.refl w.heap.size w)
  go_enter Try.func64, Try.ntmps64
  by_cases h1 : z < 0
  · have hs := Lib.hid <| marksC_same l z (.inl h1)
    obtain rfl : q = false := by rw [← HQ.out]; unfold markB; rw [decide_eq_false (by omega)]; rfl
    go_wp2_with fail
    go_ret
    exact ⟨rfl, by rw [hs.out]; exact HG.out, HB.out.mono (Nat.le_of_lt hgl)⟩
  · by_cases h2 : z ≥ 256
    · have hs := Lib.hid <| marksC_same l z (.inr (.inl h2))
      obtain rfl : q = false := by rw [← HQ.out]; unfold markB; rw [decide_eq_false (show ¬ z < 256 by omega), Bool.and_false]; rfl
      go_wp2_with fail
      go_ret
      exact ⟨rfl, by rw [hs.out]; exact HG.out, HB.out.mono (Nat.le_of_lt hgl)⟩
    · obtain ⟨p, rfl⟩ : ∃ p : Nat, z = (p : Int) := ⟨z.toNat, by omega⟩
      have hp : p < 256 := by omega
      have hc := HG.out.cell p
      rw [marksC_at _ _ hp] at hc
      have HC : Hid (w.cell? ⟨g, 0 + (p : Int).toNat * 1, none⟩ = some (.bool (inB l p))) := Lib.hid (by rw [Int.toNat_natCast, Nat.mul_one, Nat.zero_add]; exact hc)
      have hq2 : q = !inB l p := by rw [← HQ.out]; unfold markB; rw [decide_eq_true (by omega), decide_eq_true (by omega), hasB_inB]; rfl
      clear hc HQ
      go_upto_region 1 with (fail)
      refine Agg.listR 13 (by kernel_rfl) ?_
      simp only [List.take_succ_cons, List.take_zero, List.drop_succ_cons, List.drop_zero]
      refine Agg.chMove rfl rfl rfl rfl ?_
      refine Agg.chLt false (decide_eq_false h1) rfl rfl rfl rfl rfl ?_
      refine Agg.chMove rfl rfl rfl rfl ?_
      refine Agg.chMove rfl rfl rfl rfl ?_
      refine Agg.chGe false (decide_eq_false h2) rfl rfl rfl rfl rfl ?_
      refine Agg.chPick rfl rfl rfl rfl rfl ?_
      refine Agg.chMove rfl rfl rfl rfl ?_
      refine Agg.chMove rfl rfl rfl rfl ?_
      refine Agg.chMove rfl rfl rfl rfl ?_
      refine Agg.chNil rfl rfl rfl rfl ?_
      refine Agg.chIAA aiMk (by omega) (by omega) rfl rfl rfl rfl rfl ?_
      refine Agg.chLoad rfl rfl rfl rfl (by decide +kernel) HC.out ?_
      refine Agg.chPick rfl rfl rfl rfl rfl ?_
      refine Agg.chEnd ?_
      intro vs w1 hb _
      show Exit.then _ _ Exit.normal _ _
      simp only [List.reverse, List.reverseAux, Agg.fill, List.set_cons_succ, List.set_cons_zero]
      replace HB := Lib.hid (HB.out.trans (hb.mono HB.out.size))
      replace HG := Lib.hid (HG.out.keep hb)
      clear hb
      cases hi : inB l p
      · rw [hi] at hq2
        have hsn := Lib.hid (marksC_snoc l p hp)
        have hx := HG.out
        go_wp2_with (first
          | (refine Agg.gStoreCell p (.bool true) hx rfl rfl rfl rfl rfl (by kernel_rfl) rfl (by rw [marksC_length]; exact hp) rfl (fun w5 hb5 hg5 => ?_)))
        go_ret
        rw [spliced_set _ _ _ (by rw [marksC_length]; exact hp), ← hsn.out] at hb5
        exact ⟨by first | rfl | (rw [hq2]; rfl), hb5, (HB.out.mono (Nat.le_of_lt hgl)).trans (grown_below hg5 (Nat.le_trans (Nat.le_of_lt hgl) HB.out.size) (fun j hj => by cases hj; exact Nat.le_refl _))⟩
      · rw [hi] at hq2
        have hs := Lib.hid <| marksC_same l (p : Int) (.inr (.inr (by simpa using hi)))
        go_wp2_with fail
        go_ret
        exact ⟨by first | rfl | (rw [hq2]; rfl), by rw [hs.out]; exact HG.out, HB.out.mono (Nat.le_of_lt hgl)⟩
end Go.Proofs.Ytgfmpkcgkjpgnaa
end
section
/-
  FILES: the iterator over what is free.
-/
namespace Fi
open Go Go.RowKit Agg
theorem freeF_prefix (a : List Int) (p n : Nat) (h : 18 ≤ p) (h2 : p ≤ n) : ∃ r, freeF a n = freeF a p ++ r := by
  obtain ⟨d, rfl⟩ : ∃ d, n = p + d := ⟨n - p, by omega⟩
  clear h2
  induction d with
  | zero => exact ⟨[], by simp⟩
  | succ d ih =>
    obtain ⟨r, hr⟩ := ih
    exact ⟨r ++ (if inB a (p + d) then [] else [p + d]), by rw [← Nat.add_assoc, freeF_step a (p + d) (by omega), hr, List.append_assoc]⟩
theorem freeF_here (a : List Int) (p n : Nat) (h : 18 ≤ p) (h2 : p < n) (hi : inB a p = false) : ∃ h : (freeF a p).length < (freeF a n).length, (freeF a n)[(freeF a p).length] = p ∧ (freeF a (p + 1)).length = (freeF a p).length + 1 := by
  obtain ⟨r, hr⟩ := freeF_prefix a (p + 1) n (by omega) h2
  have hs := freeF_step a p h
  rw [hi] at hs
  simp only [Bool.false_eq_true, if_false] at hs
  have h1 : (freeF a n)[(freeF a p).length]? = some p := by
    rw [hr, hs, List.append_assoc, List.getElem?_append_right (Nat.le_refl _), Nat.sub_self]; rfl
  exact ⟨(List.getElem?_eq_some_iff.1 h1).1, (List.getElem?_eq_some_iff.1 h1).2, by rw [hs, List.length_append]; rfl⟩
theorem freeF_skip (a : List Int) (p : Nat) (h : 18 ≤ p) (hi : inB a p = true) : (freeF a (p + 1)).length = (freeF a p).length := by
  rw [freeF_step a p h, hi]; simp
theorem blk_below {B : Nat} {w w' : World} {g : Nat} {t : TypeId} {cs : List Value} (h : Blk w g t cs) (hb : Below B w w') (hg : g < B) : Blk w' g t cs := (hb.block g hg).trans h
/-- what a round leaves as it is -/
def KpM (kp km : Nat) (A B : World) : Prop := A.heap.size ≤ B.heap.size ∧ B.heap[kp]? = A.heap[kp]? ∧ B.heap[km]? = A.heap[km]?
theorem KpM.trans {kp km : Nat} {A B C : World} (h1 : KpM kp km A B) (h2 : KpM kp km B C) : KpM kp km A C := ⟨Nat.le_trans h1.1 h2.1, h2.2.1.trans h1.2.1, h2.2.2.trans h1.2.2⟩
end Fi
namespace Go.Proofs.Ytgfmpkcgkjpgnaa
open Go.ChangeShapes Go.WideShapes Go.ChangeAt Go.RowKit Agg Pg Dv Fi
attribute [local go_sem] Oper.semAt_some

set_option maxHeartbeats 4000000 in
set_option maxRecDepth 100000 in
theorem free_any (used : List Int) (v : Value) (pages : Int) (w : World) (hv : Ints w v used) :
    Calls Try.prog 34 #[v, .int .i64 pages] w fun e w' => ∃ kp km, e = .returned (.func (.func 65) #[] #[.pointer (some ⟨kp, 0, none⟩), .pointer (some ⟨km, 0, none⟩)]) ∧ (w.heap.size ≤ kp ∧ kp < km) ∧ Blk w' kp 3 [.int .i64 pages] ∧ Blk w' km 119 (marksC used) ∧ Below w.heap.size w w' := by
  obtain ⟨x, cap, rfl, _⟩ := SlR.shape hv
  have hln := hv.len
  have HV0 := Lib.hid hv
  clear hv
  have HB := Lib.hid (Below.refl w.heap.size w)
  go_enter Try.func34, Try.ntmps34
  go_upto_region 1 with (fail)
  refine Agg.wp_at fun w1 hw1 => ?_
  have hb : Below w.heap.size w w1 := by rw [hw1.out]; repeat (first | exact Below.refl _ _ | refine Agg.bel_drew ?_ | refine Agg.bel_alloc ?_ _)
  replace HB := Lib.hid (HB.out.trans (hb.mono HB.out.size))
  clear hb
  have HP : Hid (Blk w1 w.heap.size 3 [.int .i64 pages]) := by show Blk _ _ _ _; rw [hw1.out]; exact Blk.new w 3 #[.int .i64 pages]
  clear hw1
  have hpl := HP.out.lt
  go_upto_region 2 with (refine Agg.allocRow 119 (marksC []).toArray rfl rfl (by kernel_rfl) ?_; simp only [Act.put, List.setIfInBounds_toArray, List.set_cons_succ, List.set_cons_zero])
  refine Agg.wp_at fun w2 hw2 => ?_
  have hb : Below w1.heap.size w1 w2 := by rw [hw2.out]; repeat (first | exact Below.refl _ _ | refine Agg.bel_drew ?_ | refine Agg.bel_alloc ?_ _)
  replace HB := Lib.hid (HB.out.trans (hb.mono HB.out.size))
  replace HP := Lib.hid (HP.out.keep hb)
  clear hb
  have HM : Hid (Blk w2 w1.heap.size 119 (marksC [])) := by show Blk _ _ _ _; rw [hw2.out]; exact Blk.new w1 119 (marksC []).toArray
  clear hw2
  obtain ⟨km, hkm⟩ : ∃ n, w1.heap.size = n := ⟨_, rfl⟩
  obtain ⟨kp, hkp⟩ : ∃ n, w.heap.size = n := ⟨_, rfl⟩
  rw [hkm] at HM hpl ⊢
  rw [hkp] at HP hpl
  have hkw : w.heap.size ≤ kp := by omega
  rw [show (Value.pointer (some ⟨w.heap.size, 0, none⟩)) = .pointer (some ⟨kp, 0, none⟩) by rw [hkp]]
  clear hkm hkp
  go_wp2_with fail
  go_loopw [10] (fun ix wr => ∃ (k : Nat), k ≤ used.length ∧ ix = .int .i64 k ∧ Blk wr kp 3 [.int .i64 pages] ∧ Blk wr km 119 (marksC (used.take k)) ∧ Below w.heap.size w wr) (fun ix _ => used.length - (intOf ix).toNat)
  case atStart => exact ⟨0, by omega, rfl, HP.out, HM.out, HB.out⟩
  case round =>
    obtain ⟨k, hk, rfl, hp, hm, hb⟩ := hrel
    replace HP := Lib.hid hp
    replace HM := Lib.hid hm
    replace HB := Lib.hid hb
    have HV := Lib.hid (SlR.keep HV0.out hb)
    clear hp hm hb
    obtain ⟨wA, hwA⟩ : ∃ x, x = wr := ⟨_, rfl⟩
    subst hwA
    by_cases hlt : k < used.length
    · obtain ⟨b, o, cap', hve, _, _, _, _⟩ := SlR.pos HV.out (by decide) (by omega)
      simp only [Value.slice.injEq, true_and] at hve
      obtain ⟨rfl, rfl⟩ := hve
      have hcell := ints_at HV.out hlt
      have hst := List.take_succ_eq_append_getElem hlt
      obtain ⟨z, hz⟩ : ∃ y, used[k] = y := ⟨_, rfl⟩
      rw [hz] at hcell hst
      have HST := Lib.hid hst
      clear hst hz
      go_wp2_with fail
      clear hcell
      refine (mark_any (used.take k) z km wA HM.out _ rfl).mono ?_
      rintro e w9 ⟨rfl, hm9, hb9⟩
      have HP9 := Lib.hid (blk_below HP.out hb9 hpl)
      have HM9 := Lib.hid hm9
      have HB9 := Lib.hid (HB.out.trans (hb9.mono (by omega)))
      clear hm9 hb9
      rw [← HST.out] at HM9
      go_wp2_with fail
      exact ⟨⟨k + 1, by omega, by go_num, HP9.out, HM9.out, HB9.out⟩, by simp [intOf]; omega⟩
    · obtain rfl : k = used.length := by omega
      rw [List.take_length] at HM
      have hmf : ∀ (fn : Fn) (first cap : Array Value) (w : World), (Instr.makeFunc fn first cap).run Try.prog w = .ok (.func fn first cap) w := fun _ _ _ _ => rfl
      go_wp2_with fail
      go_ret
      exact ⟨kp, km, rfl, ⟨hkw, hpl⟩, HP.out, HM.out, HB.out⟩
set_option maxHeartbeats 4000000 in
set_option maxRecDepth 100000 in
theorem free1_iter (used : List Int) (n kp km : Nat) (hn : 18 ≤ n) (hn2 : n ≤ 256) :
    Iter Try.prog 65 #[.pointer (some ⟨kp, 0, none⟩), .pointer (some ⟨km, 0, none⟩)] (fun p : Nat => #[.int .i64 (p : Int)]) (fun A B => Below A.heap.size A B) (KpM kp km) (freeF used n) (fun W => Blk W kp 3 [.int .i64 (n : Int)] ∧ Blk W km 119 (marksC used)) := by
  intro lr J Jx W hok hJ hJx hY h0
  have HJ := Lib.hid hJ
  have HJX := Lib.hid hJx
  have HY := Lib.hid hY
  have HOK := Lib.hid hok
  have H00 := Lib.hid h0
  clear hJ hJx hY hok h0
  go_enter Try.func65, Try.ntmps65
  go_step3
  go_wp2_with fail
  go_step3
  go_wp2_with fail
  go_loopw [4] (fun i wr => ∃ p : Nat, 18 ≤ p ∧ p ≤ n ∧ i = .int .i64 p ∧ Blk wr kp 3 [.int .i64 (n : Int)] ∧ Blk wr km 119 (marksC used) ∧ J (freeF used p).length wr) (fun i _ => n - (intOf i).toNat)
  case atStart => exact ⟨18, by omega, by omega, rfl, HOK.out.1, HOK.out.2, H00.out⟩
  case round =>
    obtain ⟨p, hp1, hp2, rfl, hp, hm, hj⟩ := hrel
    have HP := Lib.hid hp
    have HM := Lib.hid hm
    have HJ1 := Lib.hid hj
    clear hp hm hj HOK H00
    obtain ⟨wA, hwA⟩ : ∃ x, x = wr := ⟨_, rfl⟩
    subst hwA
    have c0 := HP.out.cell 0
    simp only [List.getElem?_cons_zero] at c0
    by_cases hlt : p < n
    · have cm := HM.out.cell p
      rw [marksC_at _ _ (by omega)] at cm
      cases hi : inB used p
      · rw [hi] at cm
        obtain ⟨hkx, hxk, hnx⟩ := freeF_here used p n hp1 hlt hi
        have HNX := Lib.hid hnx
        obtain ⟨fn, tmps, assign, body, hy, hR⟩ := HY.out _ hkx wA HJ1.out
        rw [hxk] at hy
        clear hnx hxk hi
        go_upto_region 3 with (fail)
        refine (wpIn_wide (n := 2)).1 ?_
        gi_wp2
        refine hR.mono ?_
        rintro e W2 (⟨rfl, hj2, hk2⟩ | ⟨rfl, hjx2⟩)
        · have HJ3 := Lib.hid hj2
          have HK3 := Lib.hid hk2
          clear hj2 hk2 hR hy c0 cm
          gi_wp2
          go_wp2_with fail
          exact ⟨⟨p + 1, by omega, by omega, by go_num, (HK3.out.2.1).trans HP.out, (HK3.out.2.2).trans HM.out, by rw [HNX.out]; exact HJ3.out⟩, by simp [intOf]; omega⟩
        · have HJX2 := Lib.hid hjx2
          clear hjx2 hR hy c0 cm
          gi_wp2
          go_wp2_with fail
          rw [Exit.noGoto_normal]
          go_end0
          exact ⟨⟨_, rfl⟩, .inr ⟨_, hkx, HJX2.out⟩⟩
      · rw [hi] at cm
        have HSK := Lib.hid (freeF_skip used p hp1 hi)
        clear hi
        go_wp2_with fail
        exact ⟨⟨p + 1, by omega, by omega, by go_num, HP.out, HM.out, by rw [HSK.out]; exact HJ1.out⟩, by simp [intOf]; omega⟩
    · obtain rfl : p = n := by omega
      go_wp2_with fail
      rw [Exit.noGoto_normal]
      go_end0
      exact ⟨⟨_, rfl⟩, .inl HJ1.out⟩
end Go.Proofs.Ytgfmpkcgkjpgnaa
end
