/-
  THE WALKS OF LAYER 15 (crc), sixth part: wakes.
-/
import Derived.Test.YthbljhiabgkabaaCrcRef
namespace Go.Proofs.Ythbljhiabgkabaa
open Go.ChangeShapes Go.WideShapes Go.ChangeAt Go.RowKit Agg

theorem wake1 : Crc.zeros 1#32 4 = 79764919#32 := by decide +kernel
theorem wake2 : Crc.sum [49, 50, 51, 52, 53, 54, 55, 56, 57] = 58124007#32 := by decide +kernel
theorem own_rows {w : World} {base : Nat} {cs : Array Value} {n : Nat} {ls : List (List UInt8)} (h : w.ownsRow base 25 1 (.slice (some ⟨base, 0, none⟩) n n) n cs.toList) (hn : ls.length = n)
    (hr : ∀ (i : Nat) (l : List UInt8), ls[i]? = some l → ∃ u, cs.toList[i]? = some u ∧ Bytes w u l) : Rows2 w (.slice (some ⟨base, 0, none⟩) n n) ls := by
  subst hn; exact ⟨cs.toList, ownSl h, hr⟩

set_option maxHeartbeats 1000000 in
theorem wakes_any (w : World) :
    Calls Try.prog 11 #[] w fun e w' => e = .returned (.bool true) ∧ Below w.heap.size w w' := by
  have HW1 := Lib.hid wake1
  go_enter Try.func11, Try.ntmps11
  go_wp2_with fail
  refine (zeros_any 1#32 4 w (by omega)).mono ?_
  rintro e w1 ⟨rfl, hb1⟩
  rw [HW1.out]
  have HB1 := Lib.hid hb1
  clear hb1
  go_wp2_with fail
  refine (zeros_not 1#32 (-1) w1 (by omega)).mono ?_
  rintro e w2 ⟨rfl, rfl⟩
  go_wp2_with (refine Agg.mark 25 5 _ _ _ _ _ _ rfl rfl rfl rfl (by simp) (by kernel_rfl) (by kernel_rfl) ?_; simp only [Act.put, List.setIfInBounds_toArray, List.set_cons_succ, List.set_cons_zero])
  refine (sum_any [[49, 50, 51, 52, 53], [], [54, 55, 56, 57]] _ _ (own_rows (World.ownsRow_lit (e := 25) (size := 1) _ _ 3 (Nat.le_refl _) (by decide) rfl) rfl ?_) (by simp [maxLen])).mono ?_
  · intro i l hl
    have hi : i = 0 ∨ i = 1 ∨ i = 2 := by
      rcases Nat.lt_or_ge i 3 with h | h
      · omega
      · rw [List.getElem?_eq_none (by simpa using h)] at hl; cases hl
    rcases hi with rfl | rfl | rfl
    · simp only [List.getElem?_cons_zero, Option.some.injEq] at hl
      subst hl
      exact ⟨_, rfl, ((wmark_sl w1 #[.int .u8 49, .int .u8 50, .int .u8 51, .int .u8 52, .int .u8 53] 5 5 rfl (by decide)).keep (wmark_below _ _ (Nat.le_refl _))).keep ((Below.refl _ _).alloc (Nat.le_refl _) _)⟩
    · simp only [List.getElem?_cons_succ, List.getElem?_cons_zero, Option.some.injEq] at hl
      subst hl
      exact ⟨_, rfl, SlR.nil _ _⟩
    · simp only [List.getElem?_cons_succ, List.getElem?_cons_zero, Option.some.injEq] at hl
      subst hl
      exact ⟨_, rfl, (wmark_sl _ #[.int .u8 54, .int .u8 55, .int .u8 56, .int .u8 57] 5 4 rfl (by decide)).keep ((Below.refl _ _).alloc (Nat.le_refl _) _)⟩
  rintro e w3 ⟨rfl, hb3⟩
  have e1 : [[49, 50, 51, 52, 53], [], [54, 55, 56, 57]].flatten = ([49, 50, 51, 52, 53, 54, 55, 56, 57] : List UInt8) := rfl
  rw [e1, wake2]
  have hb : Below w.heap.size w w3 := by
    have h1 : Below w.heap.size w1 (wmark w1 #[.int .u8 49, .int .u8 50, .int .u8 51, .int .u8 52, .int .u8 53] 5) := wmark_below _ _ HB1.out.size
    have h2 : Below w.heap.size (wmark w1 #[.int .u8 49, .int .u8 50, .int .u8 51, .int .u8 52, .int .u8 53] 5) _ := wmark_below #[.int .u8 54, .int .u8 55, .int .u8 56, .int .u8 57] 5 (Nat.le_trans HB1.out.size h1.size)
    have h12 := (HB1.out.trans h1).trans h2
    have h3 := h12.alloc h12.size (.cells #[.slice (some ⟨w1.heap.size, 0, none⟩) 5 5, .slice none 0 0, .slice (some ⟨(wmark w1 #[.int .u8 49, .int .u8 50, .int .u8 51, .int .u8 52, .int .u8 53] 5).heap.size, 0, none⟩) 4 4] 25)
    exact h3.trans (hb3.mono h3.size)
  have HB3 := Lib.hid hb
  clear hb hb3 e1
  go_wp2_with fail
  refine (lay_any [1, 2] _ _ (own_bytes (bytes_slice w3 #[.int .u8 1, .int .u8 2] [1, 2] 2 rfl rfl (by decide) _ (Nat.le_refl _)) rfl) (by simp)).mono ?_
  rintro e w4 ⟨v', rfl, ho, hb4⟩
  have hy := own_bytes ho (by rfl)
  have h4 : Below w.heap.size w w4 := (HB3.out.alloc HB3.out.size (.cells #[.int .u8 1, .int .u8 2] 5)).trans (hb4.mono (by have := HB3.out.size; simp; omega))
  have HB4 := Lib.hid h4
  have HY := Lib.hid hy
  clear ho hb4 hy h4
  go_wp2_with fail
  refine (holds_any (Crc.lay [1, 2]) v' w4 HY.out true ?_).mono ?_
  · rw [Crc.lay_sum]; rfl
  rintro e w5 ⟨rfl, hb5⟩
  have HB5 := Lib.hid (HB4.out.trans (hb5.mono HB4.out.size))
  clear hb5
  go_wp2_with fail
  refine (holds_any [255, 255, 255] _ _ (own_bytes (bytes_slice w5 #[.int .u8 255, .int .u8 255, .int .u8 255] [255, 255, 255] 3 rfl rfl (by decide) _ (Nat.le_refl _)) rfl) false (by rfl)).mono ?_
  rintro e w6 ⟨rfl, hb6⟩
  have HB6 := Lib.hid ((HB5.out.alloc HB5.out.size (.cells #[.int .u8 255, .int .u8 255, .int .u8 255] 5)).trans (hb6.mono (by have := HB5.out.size; simp; omega)))
  clear hb6
  go_wp2_with fail
  go_ret
  exact ⟨rfl, HB6.out⟩
end Go.Proofs.Ythbljhiabgkabaa
