/-
  THE WALKS OF LAYER 15's STATEMENTS (crc), second part: CrcZeros, CrcJoins.
-/
import Derived.Test.YthbljhiabgkabaaCrcLaw1
namespace Go.Proofs.Ythbljhiabgkabaa
open Go.ChangeShapes Go.WideShapes Go.ChangeAt Go.RowKit Agg

set_option maxHeartbeats 1000000 in
theorem zeros_out (s a b : Crc.W) (n : Int) (w : World) (hn : n < 0 ∨ 1099511627776 < n) :
    Calls Try.prog 8 #[.int .u32 s.toNat, .int .u32 a.toNat, .int .u32 b.toNat, .int .i64 n] w fun e w' => e = .returned (.bool true) ∧ Below w.heap.size w w' := by
  rcases hn with hn | hn
  all_goals
    first
      | have t1 : decide (n < 0) = true := by simp; omega
      | have t1 : decide (n < 0) = false := by simp; omega
    try have t2 : decide (n > 1099511627776) = true := by simp; omega
    have HN : Hid (n < 0 ∨ 1099511627776 < n) := by first | exact Or.inl hn | exact Or.inr hn
    clear hn
    go_enter Try.func8, Try.ntmps8
    go_wp2_with fail
    refine (wakes_any w).mono ?_
    rintro e w1 ⟨rfl, hb1⟩
    have HB1 := Lib.hid hb1
    clear hb1
    go_wp2_with fail
    refine (zeros_not s n w1 HN.out).mono ?_
    rintro e w2 ⟨rfl, rfl⟩
    go_wp2_with fail
    refine (join_not a b n w1 HN.out).mono ?_
    rintro e w2 ⟨rfl, rfl⟩
    go_wp2_with fail
    go_ret
    exact ⟨rfl, HB1.out⟩

theorem not_const (s : Crc.W) : bits .xor .u32 (s.toNat : Int) 4294967295 = ((~~~ s).toNat : Int) := by
  have e : (4294967295 : Int) = ((BitVec.allOnes 32).toNat : Int) := by decide
  rw [e, bxor, BitVec.xor_allOnes]

set_option maxHeartbeats 1000000 in
theorem zeros_in (s a b : Crc.W) (n : Nat) (w : World) (hn : n ≤ 1099511627776) :
    Calls Try.prog 8 #[.int .u32 s.toNat, .int .u32 a.toNat, .int .u32 b.toNat, .int .i64 n] w fun e w' => e = .returned (.bool true) ∧ Below w.heap.size w w' := by
  have t1 : decide ((n : Int) < 0) = false := by simp
  have t2 : decide ((n : Int) > 1099511627776) = false := by simp; omega
  have hno := not_const a
  have hj := fun w => join_any a b n w hn
  generalize ~~~ a = a' at *
  have HJ := Lib.hid hj
  clear hj
  by_cases h3 : n ≤ 300
  · have t3 : decide ((n : Int) > 300) = false := by simp; omega
    have hx := bxor b (Crc.zeros a' n)
    go_enter Try.func8, Try.ntmps8
    go_wp2_with fail
    refine (wakes_any w).mono ?_
    rintro e w1 ⟨rfl, hb1⟩
    have HB1 := Lib.hid hb1
    clear hb1
    go_wp2_with fail
    refine (zeros_any s n w1 hn).mono ?_
    rintro e w2 ⟨rfl, hb2⟩
    have HB2 := Lib.hid (HB1.out.trans (hb2.mono HB1.out.size))
    clear hb2
    go_wp2_with fail
    refine (HJ.out w2).mono ?_
    rintro e w3 ⟨rfl, hb3⟩
    have HB3 := Lib.hid (HB2.out.trans (hb3.mono HB2.out.size))
    clear hb3
    go_wp2_with fail
    refine (rzeros_any s n w3 (by omega)).mono ?_
    rintro e w4 ⟨rfl, hb4⟩
    have HB4 := Lib.hid (HB3.out.trans (hb4.mono HB3.out.size))
    clear hb4
    generalize Crc.zeros s n = z at *
    go_wp2_with fail
    refine (rzeros_any a' n w4 (by omega)).mono ?_
    rintro e w5 ⟨rfl, hb5⟩
    have HB5 := Lib.hid (HB4.out.trans (hb5.mono HB4.out.size))
    clear hb5
    generalize Crc.zeros a' n = y at *
    go_wp2_with fail
    go_ret
    exact ⟨rfl, HB5.out⟩
  · have t3 : decide ((n : Int) > 300) = true := by simp; omega
    go_enter Try.func8, Try.ntmps8
    go_wp2_with fail
    refine (wakes_any w).mono ?_
    rintro e w1 ⟨rfl, hb1⟩
    have HB1 := Lib.hid hb1
    clear hb1
    go_wp2_with fail
    refine (zeros_any s n w1 hn).mono ?_
    rintro e w2 ⟨rfl, hb2⟩
    have HB2 := Lib.hid (HB1.out.trans (hb2.mono HB1.out.size))
    clear hb2
    go_wp2_with fail
    refine (HJ.out w2).mono ?_
    rintro e w3 ⟨rfl, hb3⟩
    have HB3 := Lib.hid (HB2.out.trans (hb3.mono HB2.out.size))
    clear hb3
    go_wp2_with fail
    go_ret
    exact ⟨rfl, HB3.out⟩

theorem CrcZeros_walk (a0 a1 a2 a3 : Int) (w : World) (h0 : (Lit.int .u32 a0).wf = true) (h1 : (Lit.int .u32 a1).wf = true) (h2 : (Lit.int .u32 a2).wf = true) (_ : (Lit.int .i64 a3).wf = true) :
    Calls Try.prog 8 #[.int .u32 a0, .int .u32 a1, .int .u32 a2, .int .i64 a3] w fun e w' => e = .returned (.bool true) ∧ Below w.heap.size w w' := by
  obtain ⟨s, rfl⟩ := u32_bv h0
  obtain ⟨a, rfl⟩ := u32_bv h1
  obtain ⟨b, rfl⟩ := u32_bv h2
  by_cases h : a3 < 0 ∨ 1099511627776 < a3
  · exact zeros_out s a b a3 w h
  · obtain ⟨n, rfl⟩ := Int.eq_ofNat_of_zero_le (show 0 ≤ a3 by omega)
    exact zeros_in s a b n w (by omega)

/-! ### CrcJoins -/
theorem rows_one {w : World} {x : Option Addr} {n cap : Nat} {l : List UInt8} (h : Bytes w (.slice x n cap) l) : Rows2 (w.alloc (.cells #[.slice x n cap] 25)) (.slice (some ⟨w.heap.size, 0, none⟩) 1 1) [l] := by
  refine own_rows (World.ownsRow_lit (e := 25) (size := 1) (base := w.heap.size) w #[.slice x n cap] 1 (Nat.le_refl _) (by decide) rfl) rfl ?_
  intro i l' hl'
  have : i = 0 := by
    rcases Nat.eq_zero_or_pos i with h | h
    · exact h
    · rw [List.getElem?_eq_none (by simp; omega)] at hl'; cases hl'
  subst this
  simp only [List.getElem?_cons_zero, Option.some.injEq] at hl'
  subst hl'
  exact ⟨_, rfl, h.keep ((Below.refl _ _).alloc (Nat.le_refl _) _)⟩
theorem rows_two {w : World} {x y : Option Addr} {n cap m dap : Nat} {l k : List UInt8} (h : Bytes w (.slice x n cap) l) (h2 : Bytes w (.slice y m dap) k) :
    Rows2 (w.alloc (.cells #[.slice x n cap, .slice y m dap] 25)) (.slice (some ⟨w.heap.size, 0, none⟩) 2 2) [l, k] := by
  refine own_rows (World.ownsRow_lit (e := 25) (size := 1) (base := w.heap.size) w #[.slice x n cap, .slice y m dap] 2 (Nat.le_refl _) (by decide) rfl) rfl ?_
  intro i l' hl'
  have : i = 0 ∨ i = 1 := by
    rcases Nat.lt_or_ge i 2 with h | h
    · omega
    · rw [List.getElem?_eq_none (by simpa using h)] at hl'; cases hl'
  rcases this with rfl | rfl
  · simp only [List.getElem?_cons_zero, Option.some.injEq] at hl'
    subst hl'
    exact ⟨_, rfl, h.keep ((Below.refl _ _).alloc (Nat.le_refl _) _)⟩
  · simp only [List.getElem?_cons_succ, List.getElem?_cons_zero, Option.some.injEq] at hl'
    subst hl'
    exact ⟨_, rfl, h2.keep ((Below.refl _ _).alloc (Nat.le_refl _) _)⟩
/-- the sum of one row, in a block of its own -/
theorem sum_one (l : List UInt8) (x : Option Addr) (n cap : Nat) (w : World) (h : Bytes w (.slice x n cap) l) (hm : l.length ≤ maxLen) :
    Calls Try.prog 13 #[.slice (some ⟨w.heap.size, 0, none⟩) 1 1] (w.alloc (.cells #[.slice x n cap] 25)) fun e w' => e = .returned (.int .u32 (Crc.sum l).toNat) ∧ Below w.heap.size w w' := by
  refine (sum_any [l] _ _ (rows_one h) (by simpa using hm)).mono ?_
  rintro e w' ⟨rfl, hb⟩
  rw [List.flatten_singleton]
  exact ⟨rfl, ((Below.refl _ w).alloc (Nat.le_refl _) _).trans (hb.mono (by simp))⟩
theorem sum_two (l k : List UInt8) (x y : Option Addr) (n cap m dap : Nat) (w : World) (h : Bytes w (.slice x n cap) l) (h2 : Bytes w (.slice y m dap) k) (hm : l.length ≤ maxLen) (hm2 : k.length ≤ maxLen) :
    Calls Try.prog 13 #[.slice (some ⟨w.heap.size, 0, none⟩) 2 2] (w.alloc (.cells #[.slice x n cap, .slice y m dap] 25)) fun e w' => e = .returned (.int .u32 (Crc.sum (l ++ k)).toNat) ∧ Below w.heap.size w w' := by
  refine (sum_any [l, k] _ _ (rows_two h h2) (by simpa using ⟨hm, hm2⟩)).mono ?_
  rintro e w' ⟨rfl, hb⟩
  have e1 : [l, k].flatten = l ++ k := by simp
  rw [e1]
  exact ⟨rfl, ((Below.refl _ w).alloc (Nat.le_refl _) _).trans (hb.mono (by simp))⟩
/-- own, of bytes -/
theorem own_bytes_any (l : List UInt8) (v : Value) (w : World) (hv : Bytes w v l) :
    Calls Try.prog 12 #[v] w fun e w' => ∃ g cap, e = .returned (.slice (some ⟨g, 0, none⟩) (min l.length 500) cap) ∧ w'.ownsRow w.heap.size 5 1 (.slice (some ⟨g, 0, none⟩) (min l.length 500) cap) (min l.length 500) (bv (l.take 500)) ∧ Below w.heap.size w w' := by
  refine (own_any (bv l) l.length v w hv (bv_one l)).mono ?_
  rintro e w' ⟨v', rfl, ho, hb, hne⟩
  have e1 : (bv l).take (min l.length 500) = bv (l.take 500) := by
    rw [← bv_take]
    congr 1
    by_cases h : l.length ≤ 500
    · rw [Nat.min_eq_left h, List.take_length, List.take_of_length_le h]
    · rw [Nat.min_eq_right (by omega)]
  rw [e1] at ho
  rcases ho.2 with ⟨h1, _⟩ | ⟨g, cap, cur, rfl, _⟩
  · exact (hne h1).elim
  · exact ⟨g, cap, rfl, ho, hb⟩

set_option maxHeartbeats 1000000 in
theorem CrcJoins_walk (v : Value) (l : List UInt8) (u : Value) (k : List UInt8) (w : World) (h0 : Bytes w v l) (_ : l.length ≤ maxLen) (h1 : Bytes w u k) (_ : k.length ≤ maxLen) :
    Calls Try.prog 9 #[v, u] w fun e w' => e = .returned (.bool true) ∧ Below w.heap.size w w' := by
  have H0 := Lib.hid h0
  have H1 := Lib.hid h1
  obtain ⟨x, cx, rfl, _, _⟩ := h0.shape
  obtain ⟨y, cy, rfl, _, _⟩ := h1.shape
  clear h0 h1
  go_enter Try.func9, Try.ntmps9
  go_wp2_with fail
  refine (wakes_any w).mono ?_
  rintro e w1 ⟨rfl, hb1⟩
  have HB1 := Lib.hid hb1
  clear hb1
  go_wp2_with fail
  refine (own_bytes_any l _ w1 (H0.out.keep HB1.out)).mono ?_
  rintro e w2 ⟨g, cap, rfl, ho2, hb2⟩
  have HB2 := Lib.hid (HB1.out.trans (hb2.mono HB1.out.size))
  have HO2 := Lib.hid ho2
  clear hb2 ho2
  go_wp2_with fail
  refine (own_bytes_any k _ w2 (H1.out.keep HB2.out)).mono ?_
  rintro e w3 ⟨g2, cap2, rfl, ho3, hb3⟩
  have HB3 := Lib.hid (HB2.out.trans (hb3.mono HB2.out.size))
  have HY := Lib.hid (own_bytes HO2.out (by simp [Nat.min_comm]) |>.keep hb3)
  have HZ := Lib.hid (own_bytes ho3 (by simp [Nat.min_comm]))
  clear hb3 ho3
  have hp := Lib.hid (Crc.join_sum (l.take 500) (k.take 500))
  have hq := Lib.hid (Crc.more_append Crc.ones (l.take 500) (k.take 500))
  have hl : (l.take 500).length ≤ 500 := by simp; omega
  have hk : (k.take 500).length ≤ 500 := by simp; omega
  have hkl : min k.length 500 = (k.take 500).length := by simp [Nat.min_comm]
  rw [hkl] at HZ ⊢
  have hml : min l.length 500 ≤ 500 := Nat.min_le_right _ _
  generalize l.take 500 = p at *
  generalize k.take 500 = q at *
  generalize min l.length 500 = lp at *
  clear hkl
  have HL := Lib.hid hl
  generalize hlq : q.length = lq at *
  have HLQ := Lib.hid hlq
  clear hlq HO2 hl
  go_wp2_with fail
  refine (sum_one p _ _ _ w3 HY.out (by unfold maxLen; have := HL.out; omega)).mono ?_
  rintro e w4 ⟨rfl, hb4⟩
  have HB4 := Lib.hid (HB3.out.trans (hb4.mono HB3.out.size))
  have HY4 := Lib.hid (HY.out.keep hb4)
  have HZ4 := Lib.hid (HZ.out.keep hb4)
  clear hb4
  go_wp2_with fail
  refine (sum_one q _ _ _ w4 HZ4.out (by rw [HLQ.out]; unfold maxLen; omega)).mono ?_
  rintro e w5 ⟨rfl, hb5⟩
  have HB5 := Lib.hid (HB4.out.trans (hb5.mono HB4.out.size))
  have HY5 := Lib.hid (HY4.out.keep hb5)
  have HZ5 := Lib.hid (HZ4.out.keep hb5)
  clear hb5
  go_wp2_with fail
  refine (join_any (Crc.sum p) (Crc.sum q) lq w5 (by omega)).mono ?_
  rintro e w6 ⟨rfl, hb6⟩
  have HB6 := Lib.hid (HB5.out.trans (hb6.mono HB5.out.size))
  have HY6 := Lib.hid (HY5.out.keep hb6)
  have HZ6 := Lib.hid (HZ5.out.keep hb6)
  clear hb6
  rw [hp.out]
  generalize hs : Crc.sum (p ++ q) = s at *
  have HS := Lib.hid hs
  clear hs
  go_wp2_with fail
  refine (sum_two p q _ _ _ _ _ _ w6 HY6.out HZ6.out (by unfold maxLen; have := HL.out; omega) (by rw [HLQ.out]; unfold maxLen; omega)).mono ?_
  rintro e w7 ⟨rfl, hb7⟩
  have HB7 := Lib.hid (HB6.out.trans (hb7.mono HB6.out.size))
  have HY7 := Lib.hid (HY6.out.keep hb7)
  have HZ7 := Lib.hid (HZ6.out.keep hb7)
  clear hb7
  rw [HS.out]
  go_wp2_with fail
  refine (sum_one p _ _ _ w7 HY7.out (by unfold maxLen; have := HL.out; omega)).mono ?_
  rintro e w8 ⟨rfl, hb8⟩
  have HB8 := Lib.hid (HB7.out.trans (hb8.mono HB7.out.size))
  have HZ8 := Lib.hid (HZ7.out.keep hb8)
  clear hb8
  go_wp2_with fail
  refine (more_any (Crc.sum p) q _ w8 HZ8.out (by rw [HLQ.out]; unfold maxLen; omega)).mono ?_
  rintro e w9 ⟨rfl, hb9⟩
  have HB9 := Lib.hid (HB8.out.trans (hb9.mono HB8.out.size))
  have e9 : Crc.more (Crc.sum p) q = s := by rw [← HS.out]; exact hq.out.symm
  rw [e9]
  clear hb9 e9
  go_wp2_with fail
  go_ret
  exact ⟨rfl, HB9.out⟩
end Go.Proofs.Ythbljhiabgkabaa
