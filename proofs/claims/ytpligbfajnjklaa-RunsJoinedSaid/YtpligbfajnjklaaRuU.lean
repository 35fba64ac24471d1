/-
  THE WALKS OF LAYER 7 (runs): Grow, Concat, placed.
-/
import Derived.Test.YtpligbfajnjklaaGrow
section
namespace Go.Proofs.Ytpligbfajnjklaa
open Go.ChangeShapes Go.WideShapes Go.ChangeAt Go.RowKit Agg Pg Ru

theorem grow_any (n : Nat) (w : World) (h0 : 0 < n) (hn : n ≤ 1000000) :
    Calls Try.prog 56 #[.slice none 0 0, .int .i64 n] w fun e w' => ∃ c, e = .returned (.slice (some ⟨w.heap.size, 0, none⟩) 0 c) ∧ w'.ownsRow w.heap.size 31 3 (.slice (some ⟨w.heap.size, 0, none⟩) 0 c) 0 [] ∧ Below w.heap.size w w' := by
  have h0b : ¬ (n : Int) < 0 := by omega
  have h0c : (n : Int) > 0 := by omega
  have HB := Lib.hid (Below.refl w.heap.size w)
  go_enter Try.func56, Try.ntmps56
  go_wp2_with (refine Agg.appendMade ti24 (k := .i64) (by kernel_rfl) (.tmp 20) (.tmp 21) rfl rfl n rfl rfl h0 (by unfold maxLen; omega) (by omega) (by decide) (fun c w9 ho hb hc => ?_); simp only [Act.put, List.setIfInBounds_toArray, List.set_cons_succ, List.set_cons_zero])
  go_ret
  exact ⟨_, rfl, ho, hb⟩
theorem ti80 : TI Try.prog 80 24 1 24 (.slice none 0 0) := ⟨by kernel_rfl, by kernel_rfl, rfl, by decide⟩
def szK (L M : List Rn) : Nat → Nat
  | 0 => 0
  | 1 => L.length
  | _ => L.length + M.length
def catK (L M : List Rn) : Nat → List Rn
  | 0 => []
  | 1 => L
  | _ => L ++ M
theorem cat_len (L M : List Rn) (k : Nat) : (catK L M k).length = szK L M k := by
  unfold catK szK
  split <;> simp
set_option maxHeartbeats 4000000 in
set_option maxRecDepth 100000 in
theorem concat_any (L M : List Rn) (u v : Value) (b : Nat) (w : World) (hb : Blk w b 24 [u, v]) (hu : Rus w u L) (hv : Rus w v M) (hL : 1 ≤ L.length) (hL2 : L.length ≤ 300) (hM : 1 ≤ M.length) (hM2 : M.length ≤ 300) :
    Calls Try.prog 49 #[.slice (some ⟨b, 0, none⟩) 2 2] w fun e w' => ∃ q, e = .returned q ∧ w'.ownsRow w.heap.size 31 3 q (L ++ M).length ((L ++ M).flatMap ruC) ∧ Below w.heap.size w w' := by
  obtain ⟨x, cx, rfl, _, _⟩ := SlR.shape hu
  obtain ⟨y, cy, rfl, _, _⟩ := SlR.shape hv
  have HBK := Lib.hid hb
  have HU := Lib.hid hu
  have HV := Lib.hid hv
  clear hb hu hv
  have HB := Lib.hid (Below.refl w.heap.size w)
  go_enter Try.func49, Try.ntmps49
  go_wp2_with fail
  go_loopw [3, 11] (fun s i wr => ∃ k : Nat, k ≤ 2 ∧ i = .int .i64 k ∧ s = .int .i64 (szK L M k : Int) ∧ wr = w) (fun _ i _ => 2 - (intOf i).toNat)
  case atStart => exact ⟨0, by omega, rfl, rfl, rfl⟩
  case round =>
    obtain ⟨k, hk, rfl, rfl, hwr⟩ := hrel
    replace hwr := hwr.symm
    subst hwr
    have c0 := HBK.out.cell 0
    have c1 := HBK.out.cell 1
    simp only [List.getElem?_cons_zero, List.getElem?_cons_succ] at c0 c1
    by_cases k0 : k = 0
    · subst k0
      have hpos : ¬ (L.length : Int) < 0 := by omega
      simp only [szK]
      go_wp2_with fail
      exact ⟨⟨1, by omega, rfl, by simp [szK], by first | rfl | trivial⟩, by simp [intOf]⟩
    · by_cases k1 : k = 1
      · subst k1
        have hpos : ¬ (L.length : Int) + (M.length : Int) < 0 := by omega
        simp only [szK]
        go_wp2_with fail
        exact ⟨⟨2, by omega, rfl, by simp [szK], by first | rfl | trivial⟩, by simp [intOf]⟩
      · obtain rfl : k = 2 := by omega
        clear c0 c1
        obtain ⟨n, hn⟩ : ∃ n, szK L M 2 = n := ⟨_, rfl⟩
        have hn2 : n = L.length + M.length := by rw [← hn]; rfl
        rw [hn]
        clear hn
        have HN := Lib.hid hn2
        clear hn2
        have hn1 : 0 < n := by have := HN.out; omega
        have hn3 : n ≤ 600 := by have := HN.out; omega
        go_wp2_with fail
        refine (grow_any n w hn1 (by omega)).mono ?_
        rintro e w1 ⟨c, rfl, ho, hb1⟩
        have HO := Lib.hid ho
        have HB1 := Lib.hid hb1
        clear ho hb1
        go_wp2_with fail
        go_loopw [6, 27] (fun q i W => ∃ k : Nat, k ≤ 2 ∧ i = .int .i64 k ∧ W.ownsRow w.heap.size 31 3 q (catK L M k).length ((catK L M k).flatMap ruC) ∧ Below w.heap.size w W) (fun _ i _ => 2 - (intOf i).toNat)
        case atStart => exact ⟨0, by omega, rfl, by simpa [catK] using HO.out, HB1.out⟩
        case round =>
          obtain ⟨k, hk, rfl, ho, hb⟩ := hrel
          have HO2 := Lib.hid ho
          have HB2 := Lib.hid hb
          clear ho hb HO HB1
          obtain ⟨qx, qc, rfl, _, _⟩ := (ownSl HO2.out).shape
          have hbk := HBK.out.keep HB2.out
          have c0 := hbk.cell 0
          have c1 := hbk.cell 1
          simp only [List.getElem?_cons_zero, List.getElem?_cons_succ] at c0 c1
          have hu := SlR.keep HU.out HB2.out
          have hv := SlR.keep HV.out HB2.out
          have hsz := HB2.out.size
          have ho2 := HO2.out
          clear hbk
          by_cases k0 : k = 0
          · subst k0
            simp only [catK, List.length_nil, List.flatMap_nil] at ho2 ⊢
            clear c1 hv
            go_wp2_with (refine Agg.append ti24 (.tmp 31) (.tmp 32) rfl rfl w.heap.size (v := .slice qx 0 qc) rfl ho2 rfl hu (rus_one L) (by unfold maxLen; omega) (by omega) hsz ?_; intro v' w4 hC4 hg4 _; simp only [Act.put, List.setIfInBounds_toArray, List.set_cons_succ, List.set_cons_zero])
            refine ⟨⟨1, by omega, rfl, ?_, HB2.out.trans (grown_below hg4 hsz (own_block ho2))⟩, by simp [intOf]⟩
            simpa [catK] using hC4
          · by_cases k1 : k = 1
            · subst k1
              simp only [catK] at ho2 ⊢
              clear c0 hu
              go_wp2_with (refine Agg.append ti24 (.tmp 31) (.tmp 32) rfl rfl w.heap.size (v := .slice qx L.length qc) rfl ho2 rfl hv (rus_one M) (by unfold maxLen; omega) (by omega) hsz ?_; intro v' w4 hC4 hg4 _; simp only [Act.put, List.setIfInBounds_toArray, List.set_cons_succ, List.set_cons_zero])
              refine ⟨⟨2, by omega, rfl, ?_, HB2.out.trans (grown_below hg4 hsz (own_block ho2))⟩, by simp [intOf]⟩
              simpa [catK] using hC4
            · obtain rfl : k = 2 := by omega
              clear c0 c1 hu hv hsz
              simp only [catK] at ho2 ⊢
              have HO3 := Lib.hid ho2
              clear ho2 HO2
              obtain ⟨nn, hnn⟩ : ∃ nn, (L ++ M).length = nn := ⟨_, rfl⟩
              rw [hnn] at HO3 ⊢
              have HNN := Lib.hid hnn
              clear hnn
              go_wp2_with fail
              go_ret
              exact ⟨_, rfl, by rw [HNN.out]; exact HO3.out, HB2.out⟩
end Go.Proofs.Ytpligbfajnjklaa
end
section
/-
  RUNS of times, in plain Lean: the pieces of some places, and what is joined.
-/
namespace Ru
def pcR (r : Rn) (i j : Int) : List Rn := if max i 0 < min j r.2.2 then [(r.1 + r.2.1 * max i 0, r.2.1, min j r.2.2 - max i 0)] else []
def piecesR : List Rn → Int → Int → List Rn
  | [], _, _ => []
  | r :: l, i, j => pcR r i j ++ piecesR l (i - r.2.2) (j - r.2.2)
theorem pieces_snoc : ∀ (l : List Rn) (k : Nat) (h : k < l.length) (i j : Int), piecesR (l.take (k + 1)) i j = piecesR (l.take k) i j ++ pcR l[k] (i - many (l.take k)) (j - many (l.take k))
  | [], _, h, _, _ => absurd h (by simp)
  | r :: l, 0, _, i, j => by simp [piecesR, many]
  | r :: l, k + 1, h, i, j => by
    have ih := pieces_snoc l k (by simpa using h) (i - r.2.2) (j - r.2.2)
    rw [List.take_succ_cons, List.take_succ_cons, piecesR, piecesR, ih, many_cons, List.append_assoc]
    simp only [List.getElem_cons_succ, Int.sub_sub]
/-- the places from i to j -/
def sl (T : List Int) (i j : Int) : List Int := (T.take j.toNat).drop i.toNat
theorem sl_append (A B : List Int) (i j : Int) : sl (A ++ B) i j = sl A i j ++ sl B (i - A.length) (j - A.length) := by
  unfold sl
  rw [List.take_append, List.drop_append, List.length_take]
  congr 1
  by_cases h : A.length ≤ j.toNat
  · rw [show j.toNat - A.length = (j - A.length).toNat by omega, show i.toNat - min j.toNat A.length = (i - A.length).toNat by omega]
  · rw [show j.toNat - A.length = 0 by omega, show (j - A.length).toNat = 0 by omega]; simp
theorem ts_get (r : Rn) (m : Nat) : (ts r)[m]? = if m < r.2.2.toNat then some (r.1 + (m : Int) * r.2.1) else none := by
  unfold ts
  by_cases h : m < r.2.2.toNat
  · rw [if_pos h, List.getElem?_map, List.getElem?_range h]; rfl
  · rw [if_neg h, List.getElem?_map, List.getElem?_eq_none (by simp; omega)]; rfl
theorem ts_pc (r : Rn) (i j : Int) : times (pcR r i j) = sl (ts r) i j := by
  unfold pcR sl
  apply List.ext_getElem?
  intro m
  rw [List.getElem?_drop, List.getElem?_take, ts_get]
  by_cases h : max i 0 < min j r.2.2
  · rw [if_pos h]
    have e : times [(r.1 + r.2.1 * max i 0, r.2.1, min j r.2.2 - max i 0)] = ts (r.1 + r.2.1 * max i 0, r.2.1, min j r.2.2 - max i 0) := by simp [times]
    rw [e, ts_get]
    simp only
    by_cases h1 : m < (min j r.2.2 - max i 0).toNat
    · rw [if_pos h1, if_pos (by omega), if_pos (by omega)]
      congr 1
      rw [show ((i.toNat + m : Nat) : Int) = max i 0 + m by omega, Int.add_mul, Int.mul_comm r.2.1]; omega
    · rw [if_neg h1]
      by_cases h2 : i.toNat + m < j.toNat
      · rw [if_pos h2, if_neg (by omega)]
      · rw [if_neg h2]
  · rw [if_neg h]
    have e : (times ([] : List Rn))[m]? = none := by simp [times]
    rw [e]
    by_cases h2 : i.toNat + m < j.toNat
    · rw [if_pos h2, if_neg (by omega)]
    · rw [if_neg h2]
theorem times_app (a b : List Rn) : times (a ++ b) = times a ++ times b := by unfold times; rw [List.flatMap_append]
theorem times_pieces : ∀ (l : List Rn) (i j : Int), (∀ r ∈ l, 0 ≤ r.2.2) → times (piecesR l i j) = sl (times l) i j
  | [], i, j, _ => by simp [piecesR, times, sl]
  | r :: l, i, j, h => by
    have ih := times_pieces l (i - r.2.2) (j - r.2.2) (fun x hx => h x (by simp [hx]))
    have h0 := h r (by simp)
    rw [piecesR, times_app, times_cons, sl_append, ts_pc, ih, ts_length, show ((r.2.2.toNat : Nat) : Int) = r.2.2 by omega]
theorem pc_sized {r : Rn} (h : sized r = true) (hl : last r ≤ maxT) (i j : Int) : ∀ p ∈ pcR r i j, sized p = true := by
  intro p hp
  unfold pcR at hp
  by_cases hc : max i 0 < min j r.2.2
  · rw [if_pos hc, List.mem_singleton] at hp
    subst hp
    obtain ⟨h1, h2, h3, h4, h5, h6⟩ := (sized_iff r).1 h
    have a1 : 0 ≤ r.2.1 * max i 0 := Int.mul_nonneg h5 (by omega)
    have a2 : r.2.1 * max i 0 ≤ r.2.1 * (r.2.2 - 1) := Int.mul_le_mul_of_nonneg_left (by omega) h5
    unfold last at hl
    refine (sized_iff _).2 ⟨?_, ?_, ?_, ?_, h5, h6⟩ <;> simp only <;> omega
  · rw [if_neg hc] at hp; cases hp
theorem pieces_sized : ∀ (l : List Rn) (i j : Int), (∀ r ∈ l, sized r = true ∧ last r ≤ maxT) → ∀ p ∈ piecesR l i j, sized p = true
  | [], i, j, _, p, hp => by cases hp
  | r :: l, i, j, h, p, hp => by
    rw [piecesR] at hp
    rcases List.mem_append.1 hp with hp | hp
    · exact pc_sized (h r (by simp)).1 (h r (by simp)).2 i j p hp
    · exact pieces_sized l _ _ (fun x hx => h x (by simp [hx])) p hp
theorem pieces_len : ∀ (l : List Rn) (i j : Int), (piecesR l i j).length ≤ l.length
  | [], i, j => Nat.le_refl _
  | r :: l, i, j => by
    have := pieces_len l (i - r.2.2) (j - r.2.2)
    rw [piecesR, List.length_append, List.length_cons]
    have h1 : (pcR r i j).length ≤ 1 := by unfold pcR; split <;> simp
    omega
theorem rising_sl {T : List Int} (h : risingB T = true) {i j : Int} (h0 : 0 ≤ i) (h1 : i < j) (h2 : j ≤ T.length) : risingB (sl T i j) = true ∧ ((sl T i j).length : Int) = j - i := by
  obtain ⟨a, b, c, d⟩ := (rising_iff T).1 h
  have hl : (sl T i j).length = (j - i).toNat := by unfold sl; rw [List.length_drop, List.length_take]; omega
  have hs : (sl T i j).Sublist T := (List.drop_sublist _ _).trans (List.take_sublist _ _)
  exact ⟨(rising_iff _).2 ⟨by omega, by omega, fun x hx => c x (hs.subset hx), d.sublist hs⟩, by omega⟩
/-- runs that may be: each by itself, and where they end -/
theorem rises_ends {l : List Rn} (h : risesB l = true) : (∀ r ∈ l, sized r = true ∧ last r ≤ maxT) ∧ (∀ x ∈ times l, (l[0]'(by have := (rises_iff l).1 h; omega)).1 ≤ x ∧ x ≤ last (l[l.length - 1]'(by have := (rises_iff l).1 h; omega))) ∧
    (l[0]'(by have := (rises_iff l).1 h; omega)).1 ∈ times l ∧ last (l[l.length - 1]'(by have := (rises_iff l).1 h; omega)) ∈ times l := by
  have h1 := ((rises_iff l).1 h).1
  have hch := ((rises_iff l).1 h).2.2.1
  have A0 := at_rises h (k := 0) (by omega)
  have A1 := at_rises h (k := l.length - 1) (by omega)
  have e1 : l.drop (l.length - 1 + 1) = [] := List.drop_eq_nil_of_le (by omega)
  have m0 := last_mem (r := l[0]) A0.cok.1
  have m1 := last_mem (r := l[l.length - 1]) A1.cok.1
  refine ⟨fun r hr => ⟨(chain_sized l hch r hr).1, (chain_sized l hch r hr).2.2⟩, fun x hx => ⟨?_, ?_⟩, ?_, ?_⟩
  · rw [A0.all] at hx
    simp only [List.take_zero] at hx
    rcases List.mem_append.1 hx with hx | hx
    · simp [times] at hx
    · rcases List.mem_append.1 hx with hx | hx
      · exact (A0.own x hx).1
      · have := A0.aft x hx; have := (A0.own _ m0.1).1; omega
  · rw [A1.all, e1] at hx
    rcases List.mem_append.1 hx with hx | hx
    · have := A1.bef x hx; have := (A1.own _ m1.1).1; omega
    · rcases List.mem_append.1 hx with hx | hx
      · exact (A1.own x hx).2
      · simp [times] at hx
  · rw [A0.all]; simp [m0.2]
  · rw [A1.all]; simp [m1.1]
theorem joins_iff {l m : List Rn} (hl : risesB l = true) (hm : risesB m = true) : risingB (times l ++ times m) = true ↔ last (l[l.length - 1]'(by have := (rises_iff l).1 hl; omega)) < (m[0]'(by have := (rises_iff m).1 hm; omega)).1 ∧ many l + many m ≤ 256 := by
  obtain ⟨_, a2, a3, a4⟩ := rises_ends hl
  obtain ⟨_, b2, b3, b4⟩ := rises_ends hm
  obtain ⟨c1, c2, c3⟩ := (rising_iff _).1 (times_rising hl)
  obtain ⟨d1, d2, d3⟩ := (rising_iff _).1 (times_rising hm)
  have e1 := (times_len hl).1
  have e2 := (times_len hm).1
  rw [rising_iff]
  constructor
  · rintro ⟨_, h2, h3, h4⟩
    rw [List.length_append] at h2
    exact ⟨(List.pairwise_append.1 h4).2.2 _ a4 _ b3, by omega⟩
  · rintro ⟨h1, h2⟩
    refine ⟨by rw [List.length_append]; omega, by rw [List.length_append]; omega, fun x hx => ?_, List.pairwise_append.2 ⟨c3.2, d3.2, fun x hx y hy => ?_⟩⟩
    · rcases List.mem_append.1 hx with hx | hx
      · exact c3.1 x hx
      · exact d3.1 x hx
    · have := (a2 x hx).2; have := (b2 y hy).1; omega
/-- a piece, as the document comes to it, place by place -/
def pAcc (r : Rn) (i j n : Int) : Rn := if max i 0 < min j n then (r.1 + r.2.1 * max i 0, r.2.1, min j n - max i 0) else (0, r.2.1, 0)
theorem pAcc_in (r : Rn) (i j n : Int) (h0 : 0 ≤ n) (h1 : i ≤ n) (h2 : n < j) : pAcc r i j (n + 1) = (if (pAcc r i j n).2.2 = 0 then r.1 + n * r.2.1 else (pAcc r i j n).1, r.2.1, (pAcc r i j n).2.2 + 1) := by
  unfold pAcc
  rw [if_pos (show max i 0 < min j (n + 1) by omega)]
  by_cases h : max i 0 < min j n
  · rw [if_pos h]
    simp only
    rw [if_neg (by omega)]
    congr 2; omega
  · rw [if_neg h]
    simp only [if_true]
    rw [show max i 0 = n by omega, Int.mul_comm]
    congr 2; omega
theorem pAcc_out (r : Rn) (i j n : Int) (h0 : 0 ≤ n) (h : ¬ (i ≤ n ∧ n < j)) : pAcc r i j (n + 1) = pAcc r i j n := by
  unfold pAcc
  by_cases h1 : max i 0 < min j n
  · rw [if_pos h1, if_pos (by omega), show min j (n + 1) = min j n by omega]
  · rw [if_neg h1, if_neg (by omega)]
theorem pAcc_end (r : Rn) (i j : Int) : pcR r i j = if 0 < (pAcc r i j r.2.2).2.2 then [pAcc r i j r.2.2] else [] := by
  unfold pcR pAcc
  by_cases h : max i 0 < min j r.2.2
  · rw [if_pos h, if_pos h, if_pos (by simp only; omega)]
  · rw [if_neg h, if_neg h, if_neg (by simp)]
end Ru
end
