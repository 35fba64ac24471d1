/-
  THE WALKS OF LAYER 15 (crc), second part: More, Sum, own; the reference's Bit, More, Sum.
-/
import Derived.Test.YtoeofoihkkhpfaaCrcWalk
namespace Go.Proofs.Ytoeofoihkkhpfaa
open Go.ChangeShapes Go.WideShapes Go.ChangeAt Go.RowKit Agg

theorem ti25 : TI Try.prog 22 5 1 1 (.int .u8 0) := ⟨by kernel_rfl, by kernel_rfl, rfl, by decide⟩

theorem foldl_take_succ (s : Crc.W) (l : List UInt8) (k : Nat) (h : k < l.length) : (l.take (k + 1)).foldl Crc.take s = Crc.take ((l.take k).foldl Crc.take s) l[k] := by
  rw [List.take_succ_eq_append_getElem h, List.foldl_append]; rfl

set_option maxHeartbeats 400000 in
theorem more_any (s : Crc.W) (l : List UInt8) (v : Value) (w : World) (hv : Bytes w v l) (hm : l.length ≤ maxLen) :
    Calls Try.prog 41 #[.int .u32 s.toNat, v] w fun e w' => e = .returned (.int .u32 (Crc.more s l).toNat) ∧ Below w.heap.size w w' := by
  have hm' : l.length ≤ 9223372036854775807 := by unfold maxLen at hm; omega
  clear hm
  have HE : Hid (Crc.more s l = (l.take l.length).foldl Crc.take s) := by show _ = _; rw [Crc.more_takes, List.take_length]
  have hs : SlR w v 1 l.length (bv l) := hv
  clear hv
  obtain ⟨x, cap, rfl, hc1, hc2⟩ := hs.shape
  generalize hn : l.length = n at *
  have HN : Hid (l.length = n) := hn
  clear hn
  generalize Crc.more s l = out at *
  go_enter Try.func41, Try.ntmps41
  go_wp2
  go_loopw [14] (fun i wr => ∃ k : Nat, k ≤ n ∧ i = .int .i64 k ∧ Below w.heap.size w wr ∧ w.heap.size < wr.heap.size ∧ wr.cell? ⟨w.heap.size, 0, none⟩ = some (.int .u32 ((l.take k).foldl Crc.take s).toNat) ∧ wr.frozen? ⟨w.heap.size, 0, none⟩ = false) (fun i _ => n - (intOf i).toNat)
  case atStart => exact ⟨0, by omega, rfl, (Below.refl _ _).alloc (Nat.le_refl _) _, by simp, by simp [go_sem], by simp [go_sem]⟩
  case round =>
    obtain ⟨k, hk, rfl, hb, hsz, hcell, hfr⟩ := hrel
    have HC := Lib.hid hcell
    have HR := Lib.hid hfr
    have HB := Lib.hid hb
    clear hcell hfr hb
    by_cases hlt : k < n
    · have hlt' : k < l.length := by rw [HN.out]; exact hlt
      have hl := foldl_take_succ s l k hlt'
      obtain ⟨b, o, cap', hve, _, _, hcs, hbl⟩ := SlR.pos hs (by decide) (by omega)
      simp only [Value.slice.injEq] at hve
      obtain ⟨rfl, _, rfl⟩ := hve
      have hck : wr.cell? ⟨b, o + k, none⟩ = some (.int .u8 (l[k].toNat : Int)) := cell_keep HB.out (hcs k _ (bv_get l k hlt'))
      have hby := l[k].toNat_lt
      clear hcs
      have HL := Lib.hid hl
      clear hl
      have HT : Hid (Crc.take ((l.take k).foldl Crc.take s) l[k] = Crc.half (Crc.half ((l.take k).foldl Crc.take s) (l[k].toNat / 16)) (l[k].toNat % 16)) := rfl
      generalize l[k] = c at *
      go_wp2_with fail
      refine (take_any _ _ c.toNat _ hby HC.out HR.out).mono ?_
      rintro e w1 ⟨rfl, hw1⟩
      rw [← HT.out, ← HL.out] at hw1
      have HW := Lib.hid hw1
      clear hw1
      go_wp2_with fail
      go_roundw
      case rel => exact ⟨k + 1, by omega, by go_num, HB.out.trans (HW.out.below _ (by omega) (by simp)), by have := HW.out.size; omega, HW.out.cell, HW.out.frozen⟩
      case measure => simp [intOf]; omega
    · have : k = n := by omega
      subst this
      have hcell : wr.cell? ⟨w.heap.size, 0, none⟩ = some (.int .u32 out.toNat) := by rw [HE.out]; exact HC.out
      go_wp2
      go_ret
      exact ⟨rfl, HB.out⟩

theorem bv_oneCell {cs : List Value} (h : ∀ u ∈ cs, u.oneCell' = true) (k : Nat) : ∀ u ∈ cs.take k, u.oneCell' = true := fun u hu => h u (List.mem_of_mem_take hu)

def SumJ (n : Nat) (x : Option Addr) (cap : Nat) (ls : List (List UInt8)) (w0 : World) (a : Act) (w : World) : Prop :=
  ∃ (k : Nat) (u5 u6 u7 u8 u9 u10 u11 u12 u13 u14 u15 u16 : Value), k ≤ n ∧ Below w0.heap.size w0 w ∧
    a = { tmps := #[.slice x n cap, undef, .int .u32 0, .int .u32 (Crc.more Crc.ones (ls.take k).flatten).toNat, .int .i64 k, u5, u6, u7, u8, u9, u10, u11, u12, u13, u14, u15, u16, undef], defers := [] }

set_option maxHeartbeats 400000 in
theorem sum_any (ls : List (List UInt8)) (v : Value) (w : World) (hv : Rows2 w v ls) (hm : ∀ l ∈ ls, l.length ≤ maxLen) :
    Calls Try.prog 39 #[v] w fun e w' => e = .returned (.int .u32 (Crc.sum ls.flatten).toNat) ∧ Below w.heap.size w w' := by
  obtain ⟨vs, hs, hrows⟩ := hv
  obtain ⟨x, cap, rfl, hc1, hc2⟩ := hs.shape
  have hc3 : cap ≤ 9223372036854775807 := by unfold maxLen at hc2; omega
  clear hc2
  generalize hn : ls.length = n at *
  have HE : Hid (Crc.sum ls.flatten = Crc.more Crc.ones (ls.take n).flatten) := by show _ = _; rw [← hn, List.take_length]; rfl
  have HN : Hid (ls.length = n) := hn
  have HM := Lib.hid hm
  have HR := Lib.hid hrows
  clear hn hm hrows
  generalize Crc.sum ls.flatten = out at *
  go_enter Try.func39, Try.ntmps39
  go_wp2_with fail
  refine Agg.scopeJumps 0 (SumJ n x cap ls w) (fun a _ => n - (intOf (a.tmps.getD 4 undef)).toNat) rfl ?_ (fun H => ?_)
  · rintro a w1 ⟨k, u5, u6, u7, u8, u9, u10, u11, u12, u13, u14, u15, u16, hk, hb, rfl⟩
    have HB := Lib.hid hb
    clear hb
    by_cases hlt : k < n
    · have hlt' : k < ls.length := by rw [HN.out]; exact hlt
      obtain ⟨b, o, cap', hve, _, _, hcs, hbl⟩ := SlR.pos hs (by decide) (by omega)
      simp only [Value.slice.injEq, true_and] at hve
      obtain ⟨rfl, rfl⟩ := hve
      obtain ⟨u, hu, hby⟩ := HR.out k _ (List.getElem?_eq_getElem hlt')
      have hck : w1.cell? ⟨b, o + k, none⟩ = some u := cell_keep HB.out (hcs k _ hu)
      have hmk := HM.out ls[k] (List.getElem_mem hlt')
      have HS : Hid (Crc.more Crc.ones (ls.take (k + 1)).flatten = Crc.more (Crc.more Crc.ones (ls.take k).flatten) ls[k]) := by
        show _ = _
        rw [List.take_succ_eq_append_getElem hlt', List.flatten_append, Crc.more_append]; simp
      have hby1 := Lib.hid (hby.keep HB.out)
      have HMK := Lib.hid hmk
      clear hcs hmk hby
      generalize ls[k] = l at *
      go_wp2_with fail
      refine (more_any _ l u _ hby1.out HMK.out).mono ?_
      rintro e w2 ⟨rfl, hb2⟩
      rw [← HS.out]
      have HB2 := Lib.hid hb2
      clear hb2
      go_wp2_with fail
      go_step3
      refine ⟨rfl, ⟨k + 1, _, _, _, _, _, _, _, _, _, _, _, _, by omega, HB.out.trans (HB2.out.mono HB.out.size), by go_num⟩, by simp [intOf]; omega⟩
    · have : k = n := by omega
      subst this
      rw [← HE.out]
      go_wp2_with fail
      simp only [Exit.jump]
      go_ret
      exact ⟨rfl, HB.out⟩
  · go_wp2_with fail
    go_step3
    go_step
    go_step
    refine H.out _ _ ⟨0, _, _, _, _, _, _, _, _, _, _, _, _, Nat.zero_le _, Below.refl _ _, rfl⟩

end Go.Proofs.Ytoeofoihkkhpfaa
