/-
  PAGES: the greatest stamp, and the document's stamp.
-/
import Derived.Test.YtjnnnnolikbjcaaRFpPgB
section
namespace Go.Proofs.Ytjnnnnolikbjcaa
open Go.ChangeShapes Go.WideShapes Go.ChangeAt Go.RowKit Agg Pg

def grS (S : List Sec) : Nat := S.foldl (fun m s => max m s.1) 0
theorem grS_snoc (S : List Sec) (s : Sec) : grS (S ++ [s]) = max (grS S) s.1 := by simp [grS]
def grB (l : List (List Sec)) : Nat := grS l.flatten
theorem flat_succ (l : List (List Sec)) (k : Nat) (h : k < l.length) : (l.take (k + 1)).flatten = (l.take k).flatten ++ l[k] := by
  rw [List.take_succ_eq_append_getElem h, List.flatten_append]; simp
theorem grS_take (S b : List Sec) (j : Nat) (h : j < b.length) : grS (S ++ b.take (j + 1)) = max (grS (S ++ b.take j)) b[j].1 := by
  rw [List.take_succ_eq_append_getElem h, ← List.append_assoc, grS_snoc]
theorem le_grS (S : List Sec) : ∀ s ∈ S, s.1 ≤ grS S := by
  have key : ∀ (S : List Sec) (m : Nat), m ≤ S.foldl (fun m s => max m s.1) m ∧ ∀ s ∈ S, s.1 ≤ S.foldl (fun m s => max m s.1) m := by
    intro S
    induction S with
    | nil => intro m; exact ⟨Nat.le_refl _, fun s hs => by cases hs⟩
    | cons a r ih =>
      intro m
      obtain ⟨h1, h2⟩ := ih (max m a.1)
      refine ⟨Nat.le_trans (Nat.le_max_left _ _) h1, fun s hs => ?_⟩
      rcases List.mem_cons.1 hs with rfl | h
      · exact Nat.le_trans (Nat.le_max_right _ _) h1
      · exact h2 s h
  exact (key S 0).2
theorem grS_lt (S : List Sec) (n : Nat) (hn : 0 < n) (h : ∀ s ∈ S, s.1 < n) : grS S < n := by
  have key : ∀ (S : List Sec) (m : Nat), m < n → (∀ s ∈ S, s.1 < n) → S.foldl (fun m s => max m s.1) m < n := by
    intro S
    induction S with
    | nil => intro m hm _; exact hm
    | cons a r ih => intro m hm h; exact ih _ (by have := h a (by simp); simp only [Nat.max_lt]; exact ⟨hm, this⟩) (fun s hs => h s (by simp [hs]))
  exact key S 0 hn h
theorem grS_met (S : List Sec) : grS S = 0 ∨ ∃ s ∈ S, s.1 = grS S := by
  have key : ∀ (S : List Sec) (m : Nat), S.foldl (fun m s => max m s.1) m = m ∨ ∃ s ∈ S, s.1 = S.foldl (fun m s => max m s.1) m := by
    intro S
    induction S with
    | nil => intro m; exact .inl rfl
    | cons a r ih =>
      intro m
      rcases ih (max m a.1) with h | ⟨s, hs, h⟩
      · by_cases hq : m ≤ a.1
        · exact .inr ⟨a, by simp, by rw [List.foldl_cons, h]; omega⟩
        · left; rw [List.foldl_cons, h]; omega
      · exact .inr ⟨s, by simp [hs], h⟩
  exact key S 0
/-- blocks in a row -/
abbrev Blks (w : World) (v : Value) (l : List (List Sec)) : Prop := SlR w v 132 l.length (l.flatMap blkC)
theorem blks_cells {l : List (List Sec)} (hl : ∀ b ∈ l, (blkC b).length = 132) (k : Nat) (h : k < l.length) (i : Nat) (v : Value) (hv : (blkC l[k])[i]? = some v) : (l.flatMap blkC)[k * 132 + i]? = some v := by
  induction l generalizing k with
  | nil => simp at h
  | cons a r ih =>
    have ha := hl a (by simp)
    rw [List.flatMap_cons]
    cases k with
    | zero =>
      have : i < (blkC a).length := (List.getElem?_eq_some_iff.1 hv).1
      rw [List.getElem?_append_left (by omega)]
      simpa using hv
    | succ k =>
      rw [List.getElem?_append_right (by omega), ha, show (k + 1) * 132 + i - 132 = k * 132 + i by omega]
      exact ih (fun b hb => hl b (by simp [hb])) k (by simpa using h) hv
theorem blks_at {w : World} {b o n cap : Nat} {l : List (List Sec)} (h : Blks w (.slice (some ⟨b, o, none⟩) n cap) l) (hl : ∀ b ∈ l, (blkC b).length = 132) {k : Nat} (hk : k < l.length) (i : Nat) (v : Value) (hv : (blkC l[k])[i]? = some v) : w.cell? ⟨b, o + (k : Int).toNat * 132 + i, none⟩ = some v := by
  obtain ⟨b', o', cap', hv', _, _, hc, _⟩ := SlR.pos h (by decide) (by omega)
  simp only [Value.slice.injEq, Option.some.injEq, Addr.mk.injEq, and_true] at hv'
  obtain ⟨⟨rfl, rfl⟩, _⟩ := hv'
  have := hc (k * 132 + i) _ (blks_cells hl k hk i v hv)
  rw [Int.toNat_natCast, Nat.add_assoc]; exact this
set_option maxHeartbeats 2000000 in
set_option maxRecDepth 100000 in
theorem great_any (l : List (List Sec)) (hl : ∀ b ∈ l, BOk b) (v : Value) (w : World) (hv : Blks w v l) :
    Calls Try.prog 11 #[v] w fun e w' => e = .returned (.int .u64 (grB l : Int)) ∧ Below w.heap.size w w' := by
  have HL := Lib.hid hl
  have HV := Lib.hid hv
  have HC : Hid (∀ b ∈ l, (blkC b).length = 132) := Lib.hid (fun b hb => bok_cells (hl b hb))
  obtain ⟨x, cap, rfl, hcap, hmax⟩ := SlR.shape hv
  unfold maxLen at hmax
  clear hl hv
  have HB := Lib.hid (Below.refl w.heap.size w)
  go_enter Try.func11, Try.ntmps11
  go_wp2_with fail
  go_loopw [10, 3] (fun i v wr => ∃ k : Nat, k ≤ l.length ∧ i = .int .i64 k ∧ v = .int .u64 (grS (l.take k).flatten : Int) ∧ Below w.heap.size w wr) (fun i _ _ => l.length - (intOf i).toNat)
  case atStart => exact ⟨0, by omega, rfl, rfl, HB.out⟩
  case round =>
    obtain ⟨k, hk, rfl, rfl, hb⟩ := hrel
    replace HB := Lib.hid hb
    have HV2 := Lib.hid (HV.out.keep hb)
    clear hb
    by_cases hlt : k < l.length
    · obtain ⟨b, o, cap', hve, _, _, _, _⟩ := SlR.pos HV.out (by decide) (by omega)
      simp only [Value.slice.injEq, true_and] at hve
      obtain ⟨rfl, rfl⟩ := hve
      have hc := blks_at HV2.out HC.out hlt
      have HS := Lib.hid (flat_succ l k hlt)
      have HK := Lib.hid (HL.out _ (List.getElem_mem hlt))
      obtain ⟨S, hS⟩ : ∃ S, S = (l.take k).flatten := ⟨_, rfl⟩
      rw [← hS] at HS ⊢
      clear hS
      generalize l[k] = s at *
      have h132 := bok_cells HK.out
      have h1 := blkC_one s
      go_wp2_with (first
        | (refine Agg.gLoad 132 (blkC s) rfl rfl rfl (by decide +kernel) h132 hc ?_; simp only [Act.put, List.setIfInBounds_toArray, List.set_cons_succ, List.set_cons_zero])
        | (refine Agg.allocRow 38 (blkC zeroB).toArray rfl rfl (by kernel_rfl) ?_; simp only [Act.put, List.setIfInBounds_toArray, List.set_cons_succ, List.set_cons_zero])
        | (refine Agg.gStoreNew 132 (blkC s) rfl rfl rfl rfl rfl rfl (by decide +kernel) h132 (by simp [zero132]) h1 ?_; simp only [Act.put])
        | (refine Agg.gLoadB 132 (Blk.new _ _ (blkC s).toArray) h132 rfl rfl rfl (by decide +kernel) ?_; simp only [Act.put, List.setIfInBounds_toArray, List.set_cons_succ, List.set_cons_zero]))
      obtain ⟨wo, hwo⟩ : ∃ x, x = wr := ⟨_, rfl⟩
      subst hwo
      have hsz := HB.out.size
      clear hc h1
      go_loopw [15, 3] (fun i v wr => ∃ j : Nat, j ≤ 4 ∧ i = .int .i64 j ∧ v = .int .u64 (grS (S ++ s.take j) : Int) ∧ Below w.heap.size w wr) (fun i _ _ => 4 - (intOf i).toNat)
      case atStart => exact ⟨0, by omega, rfl, by simp, bel_alloc HB.out _⟩
      case round =>
        obtain ⟨j, hj, rfl, rfl, hb⟩ := hrel
        have HB3 := Lib.hid hb
        clear hb
        by_cases hlt2 : j < 4
        · have hjb : j < s.length := by rw [HK.out.1]; exact hlt2
          have hel := blkC_sec s HK.out.len j hjb []
          rw [List.append_nil] at hel
          have h33 := secC_length _ (HK.out.len _ (List.getElem_mem hjb))
          have h1 := secC_one s[j]
          have HG := Lib.hid (grS_take S s j hjb)
          generalize s[j] = t at *
          have hmx : max (grS (S ++ s.take j) : Int) (t.1 : Int) = ((max (grS (S ++ s.take j)) t.1 : Nat) : Int) := by omega
          go_wp2_with (first
            | (refine Agg.gIndexRow aiB (by decide +kernel) (secC t) hlt2 hel rfl rfl rfl rfl ?_; simp only [Act.put, List.setIfInBounds_toArray, List.set_cons_succ, List.set_cons_zero])
            | (refine Agg.allocRow 36 sec0.toArray rfl rfl (by kernel_rfl) ?_; simp only [Act.put, List.setIfInBounds_toArray, List.set_cons_succ, List.set_cons_zero])
            | (refine Agg.gStoreNew 33 (secC t) rfl rfl rfl rfl rfl rfl (by decide +kernel) h33 sec0_size h1 ?_; simp only [Act.put])
            | (refine Agg.max2 (.tmp 18) (.tmp 20) _ _ rfl rfl rfl rfl hmx ?_; simp only [Act.put, List.setIfInBounds_toArray, List.set_cons_succ, List.set_cons_zero]))
          go_roundw
          case rel => exact ⟨j + 1, by omega, by go_num, by rw [HG.out], bel_alloc HB3.out _⟩
          case measure => simp [intOf]; omega
        · obtain rfl : j = 4 := by omega
          have e4 : s.take 4 = s := List.take_of_length_le (by rw [HK.out.1]; exact Nat.le_refl _)
          rw [e4, ← HS.out]
          go_wp2_with fail
          go_roundw
          case rel => exact ⟨k + 1, by omega, by go_num, rfl, HB3.out⟩
          case measure => simp [intOf]; omega
    · obtain rfl : k = l.length := by omega
      rw [List.take_length]
      go_wp2_with fail
      go_ret
      exact ⟨rfl, HB.out⟩
end Go.Proofs.Ytjnnnnolikbjcaa
end
section
/-
  PAGES: the document's Stamp and Mix.
-/
namespace Go.Proofs.Ytjnnnnolikbjcaa
open Go.ChangeShapes Go.WideShapes Go.ChangeAt Go.RowKit Agg Pg

set_option maxHeartbeats 2000000 in
set_option maxRecDepth 100000 in
theorem rStamp_any (b : List Sec) (hb : BOk b) (w : World) (q : Bool) (hq : stampB b = q) :
    Calls Try.prog 72 #[.agg (blkC b).toArray] w fun e w' => e = .returned (.tuple #[.int .u64 ((if q then st0 b else 0 : Nat) : Int), .bool q]) ∧ Below w.heap.size w w' := by
  have HBO := Lib.hid hb
  have hg : Blk (w.alloc (.cells (blkC b).toArray 38)) w.heap.size 38 (blkC b) := Blk.new w 38 (blkC b).toArray
  have HQ : Hid ((decide (stampP (st0 b)) && b.all fun s => s.1 == st0 b) = q) := Lib.hid hq
  have HG := Lib.hid hg
  clear hb hg hq
  have HST := Lib.hid (st0_get (b := b) (by have := HBO.out.1; omega))
  generalize st0 b = n at *
  have HB := Lib.hid (Below.refl w.heap.size w)
  go_enter Try.func72, Try.ntmps72
  go_wp2_with fail
  refine Agg.wp_at fun w1 hw1 => ?_
  have hb : Below w.heap.size w w1 := by rw [hw1.out]; repeat (first | exact Below.refl _ _ | refine Agg.bel_drew ?_ | refine Agg.bel_alloc ?_ _)
  replace HB := Lib.hid (HB.out.trans (hb.mono HB.out.size))
  clear hb
  have H1 : Hid (Blk w1 w.heap.size 38 (blkC b)) := by show Blk _ _ _ _; rw [hw1.out]; exact HG.out
  clear hw1 HG
  go_loopw [4] (fun i wr => ∃ k : Nat, 1 ≤ k ∧ k ≤ 4 ∧ i = .int .i64 k ∧ Below w1.heap.size w1 wr ∧ (b.take k).all (fun s => s.1 == n) = true) (fun i _ => 4 - (intOf i).toNat)
  case atStart =>
    refine ⟨1, by omega, by omega, rfl, Below.refl _ _, ?_⟩
    rw [all_take_succ b _ 0 (by have := HBO.out.1; omega), HST.out]; simp
  case round =>
    obtain ⟨k, hk1, hk, rfl, hb, htk⟩ := hrel
    have HT := Lib.hid htk
    have HK : Hid (From w1 wr) := Lib.hid hb
    clear htk
    have hb := hb
    replace HB := Lib.hid (HB.out.trans (hb.mono HB.out.size))
    replace H1 := Lib.hid (H1.out.keep hb)
    clear hb
    by_cases hlt : k < 4
    · have hkb : k < b.length := by rw [HBO.out.1]; exact hlt
      have hel := blkC_stamp b HBO.out.len k hkb []
      rw [List.append_nil] at hel
      have he0 := blkC_stamp b HBO.out.len 0 (by omega) []
      rw [List.append_nil, ← HST.out] at he0
      have HS := Lib.hid (all_take_succ b (fun s => s.1 == n) k hkb)
      have HM : Hid (b[k] ∈ b) := Lib.hid (List.getElem_mem hkb)
      have hc1 : wr.cell? ⟨w.heap.size, 0 + (k : Int).toNat * 33, none⟩ = some (.int .u64 (b[k].1 : Int)) := by rw [H1.out.cell, Nat.zero_add, Int.toNat_natCast]; exact hel
      have hc0 : wr.cell? ⟨w.heap.size, 0 + (0 : Int).toNat * 33, none⟩ = some (.int .u64 (n : Int)) := by rw [H1.out.cell]; exact he0
      clear hel he0
      generalize b[k] = s at *
      have hq2 : ((s.1 : Int) != (n : Int)) = decide (s.1 ≠ n) := by
        by_cases h : s.1 = n <;> simp [h, Int.ofNat_inj]
      go_upto_region 4 with (fail)
      refine Agg.chainR 8 (by kernel_rfl) (by kernel_rfl) ?_
      simp only [List.take_succ_cons, List.take_zero, List.drop_succ_cons, List.drop_zero]
      refine Agg.chMove rfl rfl rfl rfl ?_
      refine Agg.chIAA aiB (by omega) (by omega) rfl rfl rfl rfl rfl ?_
      refine Agg.chFA (by first | exact fo_Page_0 | exact fo_Sec_0) rfl rfl rfl rfl ?_
      refine Agg.chLoad rfl rfl rfl rfl (by decide +kernel) hc1 ?_
      refine Agg.chIAA aiB (by omega) (by omega) rfl rfl rfl rfl rfl ?_
      refine Agg.chFA (by first | exact fo_Page_0 | exact fo_Sec_0) rfl rfl rfl rfl ?_
      refine Agg.chLoad rfl rfl rfl rfl (by decide +kernel) hc0 ?_
      refine Agg.chNe (decide (s.1 ≠ n)) hq2 rfl rfl rfl rfl rfl ?_
      refine Agg.chEnd ?_
      intro vs w11 hb _
      refine Agg.wpNil ?_
      simp only [List.reverse, List.reverseAux, Agg.fill, List.set_cons_succ, List.set_cons_zero]
      replace HB := Lib.hid (HB.out.trans (hb.mono HB.out.size))
      replace H1 := Lib.hid (H1.out.keep hb)
      replace HK := Lib.hid (HK.out.keep hb)
      clear hb
      clear hc1 hc0 hq2
      by_cases hq : s.1 = n
      · have hqb : decide (s.1 ≠ n) = false := by simp [hq]
        rw [hqb]
        have hw3 : (s.1 == n) = true := by simp [hq]
        have HW3 := Lib.hid hw3
        clear hqb hw3 hq
        go_wp2_with fail
        go_roundw
        case rel => exact ⟨k + 1, by omega, by omega, by go_num, HK.out, by rw [HS.out, HT.out, HW3.out]; rfl⟩
        case measure => simp [intOf]; omega
      · have hqb : decide (s.1 ≠ n) = true := by simp [hq]
        rw [hqb]
        have HF : Hid (q = false) := by
          show _ = _
          rw [← HQ.out, Bool.and_eq_false_iff, Bool.eq_false_iff, Bool.eq_false_iff]
          right
          intro hall
          rw [List.all_eq_true] at hall
          have := hall s HM.out
          exact hq (by simpa using this)
        obtain rfl := HF.out
        clear hqb hq
        go_wp2_with fail
        go_ret2
        exact ⟨rfl, HB.out⟩
    · obtain rfl : k = 4 := by omega
      have hall : (b.all fun s => s.1 == n) = true := by
        have h1 := HT.out
        rwa [List.take_of_length_le (by rw [HBO.out.1]; exact Nat.le_refl _)] at h1
      have he0 := blkC_stamp b HBO.out.len 0 (by have := HBO.out.1; omega) []
      rw [List.append_nil, ← HST.out] at he0
      have HE0 := Lib.hid he0
      clear he0
      have HC0 : Hid (∀ w', Blk w' w.heap.size 38 (blkC b) → w'.cell? ⟨w.heap.size, 0, none⟩ = some (.int .u64 (n : Int))) := by
        refine Lib.hid (fun w' h => ?_)
        rw [h.cell]; simpa using HE0.out
      have hc0 := HC0.out wr H1.out
      have HQ2 : Hid (decide (stampP n) = q) := by show _ = _; rw [← HQ.out, hall]; simp
      clear hall
      go_wp2_with fail
      clear hc0
      refine (stamped_any n wr q HQ2.out).mono ?_
      rintro e w12 ⟨rfl, hb⟩
      replace HB := Lib.hid (HB.out.trans (hb.mono HB.out.size))
      replace H1 := Lib.hid (H1.out.keep hb)
      replace HK := Lib.hid (HK.out.keep hb)
      clear hb
      have hc0 := HC0.out w12 H1.out
      cases q
      · go_wp2_with fail
        go_ret2
        exact ⟨rfl, HB.out⟩
      · go_wp2_with fail
        go_ret2
        exact ⟨rfl, HB.out⟩
end Go.Proofs.Ytjnnnnolikbjcaa
end
section
/-
  PAGES: the document's Mix.
-/
namespace Go.Proofs.Ytjnnnnolikbjcaa
open Go.ChangeShapes Go.WideShapes Go.ChangeAt Go.RowKit Agg Pg

def mU (mask : Int) : Nat := (mask % 18446744073709551616).toNat
theorem mU_bit (mask : Int) (k : Nat) (hk : k < 4) : (mask / 2 ^ k) % 2 = 1 ↔ mU mask / 2 ^ k % 2 = 1 := by
  unfold mU
  have e : ((mask % 18446744073709551616).toNat : Int) = mask % 18446744073709551616 := by omega
  generalize (mask % 18446744073709551616).toNat = u at *
  rcases k with _ | _ | _ | _ | k
  · simp only [Int.pow_zero, Nat.pow_zero]; omega
  · simp only [Nat.zero_add, Int.pow_one, Nat.pow_one]; omega
  · simp only [Nat.zero_add, Nat.reduceAdd, Int.reducePow, Nat.reducePow]; omega
  · simp only [Nat.zero_add, Nat.reduceAdd, Int.reducePow, Nat.reducePow]; omega
  · omega
theorem half_pow (u k : Nat) : u / 2 ^ k / 2 = u / 2 ^ (k + 1) := by rw [Nat.div_div_eq_div_mul, ← Nat.pow_succ]
end Go.Proofs.Ytjnnnnolikbjcaa
end
