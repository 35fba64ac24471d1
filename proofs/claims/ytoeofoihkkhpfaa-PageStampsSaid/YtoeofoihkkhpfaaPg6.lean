/-
  PAGES: a block's bytes.
-/
import Derived.Test.YtoeofoihkkhpfaaPg5
import Derived.Test.YtoeofoihkkhpfaaAgg2
import Derived.Laws.OwnMore
import Derived.Maps.AppendAt
namespace Go.Proofs.Ytoeofoihkkhpfaa
open Go.ChangeShapes Go.WideShapes Go.ChangeAt Go.RowKit Agg Pg

theorem bytesB_succ (b : List Sec) (k : Nat) (h : k < b.length) : bytesB (b.take (k + 1)) = bytesB (b.take k) ++ b[k].2 := by
  unfold bytesB
  rw [List.take_succ_eq_append_getElem h, List.flatMap_append]; simp
set_option maxHeartbeats 2000000 in
theorem whole_any (b : List Sec) (h4 : b.length = 4) (hl : Len32 b) (w : World) :
    Calls Try.prog 33 #[.agg (blkC b).toArray] w fun e w' => ∃ v, e = .returned v ∧ w'.ownsRow w.heap.size 5 1 v 128 (bv (bytesB b)) ∧ Below w.heap.size w w' := by
  have h132 : (blkC b).length = 132 := by rw [blkC_length b hl, h4]
  have H4 := Lib.hid h4
  have HL := Lib.hid hl
  have hg := Blk.new w 36 (blkC b).toArray
  clear h4 hl
  have HB := Lib.hid (Below.refl w.heap.size w)
  go_enter Try.func33, Try.ntmps33
  go_wp2_with (refine Agg.gLoadB 132 hg h132 rfl rfl rfl (by decide +kernel) ?_; simp only [Act.put, List.setIfInBounds_toArray, List.set_cons_succ, List.set_cons_zero])
  clear hg h132
  go_loopw [7, 3] (fun i v wr => ∃ k : Nat, k ≤ 4 ∧ i = .int .i64 k ∧ Below w.heap.size w wr ∧ wr.ownsRow w.heap.size 5 1 v (k * 32) (bv (bytesB (b.take k)))) (fun i _ _ => 4 - (intOf i).toNat)
  case atStart => exact ⟨0, by omega, rfl, bel_alloc HB.out _, World.ownsRow_nil _ _ _ _⟩
  case round =>
    obtain ⟨k, hk, rfl, hb, ho⟩ := hrel
    replace HB := Lib.hid hb
    have HO := Lib.hid ho
    obtain ⟨xa, ca, rfl, _, _⟩ := (ownSl ho).shape
    clear hb ho
    by_cases hlt : k < 4
    · have hkb : k < b.length := by rw [H4.out]; exact hlt
      have hel := blkC_sec b HL.out k hkb []
      rw [List.append_nil] at hel
      have h32 := HL.out _ (List.getElem_mem hkb)
      have h33 := secC_length _ h32
      have h1 := secC_one b[k]
      have HS := Lib.hid (bytesB_succ b k hkb)
      generalize b[k] = s at *
      have hob := HO.out.keep ((Below.refl _ wr).alloc (Nat.le_refl _) (.cells (secC s).toArray 34))
      have hsz := HB.out.size
      have hsl : SlR (wr.alloc (.cells (secC s).toArray 34)) (.slice (some ⟨wr.heap.size, 1, none⟩) 32 32) 1 32 (bv s.2) :=
        SlR.ofBlk (Blk.new wr 34 (secC s).toArray) 1 32 32 (bv s.2) (by show (bv s.2).take 32 = bv s.2; exact List.take_of_length_le (by rw [bv_length]; omega)) (by rw [bv_length, h32]) (Nat.le_refl _) (by decide)
      go_wp2_with (first
        | (refine Agg.gIndexRow aiB (by decide +kernel) (secC s) hlt hel rfl rfl rfl rfl ?_; simp only [Act.put, List.setIfInBounds_toArray, List.set_cons_succ, List.set_cons_zero])
        | (refine Agg.allocRow 34 sec0.toArray rfl rfl (by kernel_rfl) ?_; simp only [Act.put, List.setIfInBounds_toArray, List.set_cons_succ, List.set_cons_zero])
        | (refine Agg.gStoreNew 33 (secC s) rfl rfl rfl rfl rfl rfl (by decide +kernel) h33 sec0_size h1 ?_; simp only [Act.put])
        | (refine Agg.append2 ti25 _ _ rfl rfl w.heap.size rfl hob rfl hsl (bv_one s.2) (by unfold maxLen; omega) (by omega) (by simp only [World.size_alloc]; omega) ?_; intro v2 w2 ho2 hg2 _; simp only [Act.put, List.setIfInBounds_toArray, List.set_cons_succ, List.set_cons_zero]))
      have hbw : Below w.heap.size w w2 := (HB.out.alloc hsz _).trans (grown_below hg2 (by simp only [World.size_alloc]; omega) (own_block hob))
      rw [← bv_append, ← HS.out] at ho2
      go_roundw
      case rel => exact ⟨k + 1, by omega, by go_num, hbw, by rw [show (k + 1) * 32 = k * 32 + 32 by omega]; exact ho2⟩
      case measure => simp [intOf]; omega
    · obtain rfl : k = 4 := by omega
      go_wp2_with fail
      go_ret
      refine ⟨_, rfl, ?_, HB.out⟩
      have := HO.out
      rw [List.take_of_length_le (by rw [H4.out]; exact Nat.le_refl _)] at this
      exact this
/-- Mix: the sectors of a mask are the new one's -/
def mixB (old new : List Sec) (mask : Int) : List Sec := (List.range 4).map fun i => if (mask / 2 ^ i) % 2 = 1 then new.getD i (0, []) else old.getD i (0, [])
/-- .. as far as round k -/
def mixTo (old new : List Sec) (mask : Int) (k : Nat) : List Sec := (List.range 4).map fun i => if i < k ∧ (mask / 2 ^ i) % 2 = 1 then new.getD i (0, []) else old.getD i (0, [])
theorem mixTo_zero (old new : List Sec) (h : old.length = 4) (mask : Int) : mixTo old new mask 0 = old := by
  match old, h with
  | [a, b, c, d], _ => simp [mixTo, List.range, List.range.loop]
theorem mixTo_all (old new : List Sec) (mask : Int) : mixTo old new mask 4 = mixB old new mask := by
  unfold mixTo mixB
  apply List.map_congr_left
  intro i hi
  have : i < 4 := List.mem_range.1 hi
  simp [this]
theorem mixTo_length (old new : List Sec) (mask : Int) (k : Nat) : (mixTo old new mask k).length = 4 := by simp [mixTo]
theorem getD_mem {b : List Sec} (i : Nat) (h : i < b.length) : b.getD i (0, []) = b[i] := by rw [List.getD_eq_getElem?_getD, List.getElem?_eq_getElem h]; rfl
theorem mixTo_mem (old new : List Sec) (h1 : old.length = 4) (h2 : new.length = 4) (mask : Int) (k : Nat) : ∀ s ∈ mixTo old new mask k, s ∈ old ∨ s ∈ new := by
  intro s hs
  obtain ⟨i, hi, rfl⟩ := List.mem_map.1 hs
  have : i < 4 := List.mem_range.1 hi
  split
  · rw [getD_mem i (by omega)]; exact .inr (List.getElem_mem _)
  · rw [getD_mem i (by omega)]; exact .inl (List.getElem_mem _)
theorem mixTo_yes (old new : List Sec) (h2 : new.length = 4) (mask : Int) (k : Nat) (hk : k < 4) (h : (mask / 2 ^ k) % 2 = 1) : (mixTo old new mask k).set k (new[k]'(by omega)) = mixTo old new mask (k + 1) := by
  apply List.ext_getElem?
  intro i
  rw [List.getElem?_set]
  by_cases hi : k = i
  · subst hi
    simp only [mixTo, List.length_map, List.length_range, hk, if_true, List.getElem?_map, List.getElem?_range hk, Option.map_some, h]
    rw [if_pos ⟨by omega, trivial⟩, getD_mem k (by omega)]
  · rw [if_neg hi]
    simp only [mixTo, List.getElem?_map]
    by_cases h4 : i < 4
    · simp only [List.getElem?_range h4, Option.map_some]
      congr 1
      by_cases hlt : i < k
      · simp [hlt, Nat.lt_succ_of_lt hlt]
      · simp [hlt, show ¬ i < k + 1 by omega]
    · rw [List.getElem?_eq_none (by simpa using h4)]; rfl
theorem mixTo_no (old new : List Sec) (mask : Int) (k : Nat) (h : ¬ (mask / 2 ^ k) % 2 = 1) : mixTo old new mask k = mixTo old new mask (k + 1) := by
  unfold mixTo
  apply List.map_congr_left
  intro i _
  by_cases hi : i = k
  · subst hi; simp [h]
  · by_cases hlt : i < k
    · simp [hlt, Nat.lt_succ_of_lt hlt]
    · simp [hlt, show ¬ i < k + 1 by omega]
end Go.Proofs.Ytoeofoihkkhpfaa
