/-
  PAGES: the greatest stamp, and the document's stamp.
-/
import Derived.Test.YtoeofoihkkhpfaaPgB
namespace Go.Proofs.Ytoeofoihkkhpfaa
open Go.ChangeShapes Go.WideShapes Go.ChangeAt Go.RowKit Agg Pg

def grS (S : List Sec) : Nat := S.foldl (fun m s => max m s.1) 0
theorem grS_snoc (S : List Sec) (s : Sec) : grS (S ++ [s]) = max (grS S) s.1 := by simp [grS]
def grB (l : List (List Sec)) : Nat := grS l.flatten
theorem flat_succ (l : List (List Sec)) (k : Nat) (h : k < l.length) : (l.take (k + 1)).flatten = (l.take k).flatten ++ l[k] := by
  rw [List.take_succ_eq_append_getElem h, List.flatten_append]; simp
theorem grS_take (S b : List Sec) (j : Nat) (h : j < b.length) : grS (S ++ b.take (j + 1)) = max (grS (S ++ b.take j)) b[j].1 := by
  rw [List.take_succ_eq_append_getElem h, ← List.append_assoc, grS_snoc]
theorem le_grS (S : List Sec) : ∀ s ∈ S, s.1 ≤ grS S := by
  have key : ∀ (S : List Sec) (m : Nat), m ≤ S.foldl (fun m s => max m s.1) m ∧ ∀ s ∈ S, s.1 ≤ S.foldl (fun m s => max m s.1) m := by
    intro S
    induction S with
    | nil => intro m; exact ⟨Nat.le_refl _, fun s hs => by cases hs⟩
    | cons a r ih =>
      intro m
      obtain ⟨h1, h2⟩ := ih (max m a.1)
      refine ⟨Nat.le_trans (Nat.le_max_left _ _) h1, fun s hs => ?_⟩
      rcases List.mem_cons.1 hs with rfl | h
      · exact Nat.le_trans (Nat.le_max_right _ _) h1
      · exact h2 s h
  exact (key S 0).2
theorem grS_lt (S : List Sec) (n : Nat) (hn : 0 < n) (h : ∀ s ∈ S, s.1 < n) : grS S < n := by
  have key : ∀ (S : List Sec) (m : Nat), m < n → (∀ s ∈ S, s.1 < n) → S.foldl (fun m s => max m s.1) m < n := by
    intro S
    induction S with
    | nil => intro m hm _; exact hm
    | cons a r ih => intro m hm h; exact ih _ (by have := h a (by simp); simp only [Nat.max_lt]; exact ⟨hm, this⟩) (fun s hs => h s (by simp [hs]))
  exact key S 0 hn h
theorem grS_met (S : List Sec) : grS S = 0 ∨ ∃ s ∈ S, s.1 = grS S := by
  have key : ∀ (S : List Sec) (m : Nat), S.foldl (fun m s => max m s.1) m = m ∨ ∃ s ∈ S, s.1 = S.foldl (fun m s => max m s.1) m := by
    intro S
    induction S with
    | nil => intro m; exact .inl rfl
    | cons a r ih =>
      intro m
      rcases ih (max m a.1) with h | ⟨s, hs, h⟩
      · by_cases hq : m ≤ a.1
        · exact .inr ⟨a, by simp, by rw [List.foldl_cons, h]; omega⟩
        · left; rw [List.foldl_cons, h]; omega
      · exact .inr ⟨s, by simp [hs], h⟩
  exact key S 0
/-- blocks in a row -/
abbrev Blks (w : World) (v : Value) (l : List (List Sec)) : Prop := SlR w v 132 l.length (l.flatMap blkC)
theorem blks_cells {l : List (List Sec)} (hl : ∀ b ∈ l, (blkC b).length = 132) (k : Nat) (h : k < l.length) (i : Nat) (v : Value) (hv : (blkC l[k])[i]? = some v) : (l.flatMap blkC)[k * 132 + i]? = some v := by
  induction l generalizing k with
  | nil => simp at h
  | cons a r ih =>
    have ha := hl a (by simp)
    rw [List.flatMap_cons]
    cases k with
    | zero =>
      have : i < (blkC a).length := (List.getElem?_eq_some_iff.1 hv).1
      rw [List.getElem?_append_left (by omega)]
      simpa using hv
    | succ k =>
      rw [List.getElem?_append_right (by omega), ha, show (k + 1) * 132 + i - 132 = k * 132 + i by omega]
      exact ih (fun b hb => hl b (by simp [hb])) k (by simpa using h) hv
theorem blks_at {w : World} {b o n cap : Nat} {l : List (List Sec)} (h : Blks w (.slice (some ⟨b, o, none⟩) n cap) l) (hl : ∀ b ∈ l, (blkC b).length = 132) {k : Nat} (hk : k < l.length) (i : Nat) (v : Value) (hv : (blkC l[k])[i]? = some v) : w.cell? ⟨b, o + (k : Int).toNat * 132 + i, none⟩ = some v := by
  obtain ⟨b', o', cap', hv', _, _, hc, _⟩ := SlR.pos h (by decide) (by omega)
  simp only [Value.slice.injEq, Option.some.injEq, Addr.mk.injEq, and_true] at hv'
  obtain ⟨⟨rfl, rfl⟩, _⟩ := hv'
  have := hc (k * 132 + i) _ (blks_cells hl k hk i v hv)
  rw [Int.toNat_natCast, Nat.add_assoc]; exact this
theorem bok_cells {b : List Sec} (h : BOk b) : (blkC b).length = 132 := by rw [blkC_length b h.len, h.1]
set_option maxHeartbeats 2000000 in
set_option maxRecDepth 100000 in
theorem great_any (l : List (List Sec)) (hl : ∀ b ∈ l, BOk b) (v : Value) (w : World) (hv : Blks w v l) :
    Calls Try.prog 23 #[v] w fun e w' => e = .returned (.int .u64 (grB l : Int)) ∧ Below w.heap.size w w' := by
  have HL := Lib.hid hl
  have HV := Lib.hid hv
  have HC : Hid (∀ b ∈ l, (blkC b).length = 132) := Lib.hid (fun b hb => bok_cells (hl b hb))
  obtain ⟨x, cap, rfl, hcap, hmax⟩ := SlR.shape hv
  unfold maxLen at hmax
  clear hl hv
  have HB := Lib.hid (Below.refl w.heap.size w)
  go_enter Try.func23, Try.ntmps23
  go_wp2_with fail
  go_loopw [10, 3] (fun i v wr => ∃ k : Nat, k ≤ l.length ∧ i = .int .i64 k ∧ v = .int .u64 (grS (l.take k).flatten : Int) ∧ Below w.heap.size w wr) (fun i _ _ => l.length - (intOf i).toNat)
  case atStart => exact ⟨0, by omega, rfl, rfl, HB.out⟩
  case round =>
    obtain ⟨k, hk, rfl, rfl, hb⟩ := hrel
    replace HB := Lib.hid hb
    have HV2 := Lib.hid (HV.out.keep hb)
    clear hb
    by_cases hlt : k < l.length
    · obtain ⟨b, o, cap', hve, _, _, _, _⟩ := SlR.pos HV.out (by decide) (by omega)
      simp only [Value.slice.injEq, true_and] at hve
      obtain ⟨rfl, rfl⟩ := hve
      have hc := blks_at HV2.out HC.out hlt
      have HS := Lib.hid (flat_succ l k hlt)
      have HK := Lib.hid (HL.out _ (List.getElem_mem hlt))
      obtain ⟨S, hS⟩ : ∃ S, S = (l.take k).flatten := ⟨_, rfl⟩
      rw [← hS] at HS ⊢
      clear hS
      generalize l[k] = s at *
      have h132 := bok_cells HK.out
      have h1 := blkC_one s
      go_wp2_with (first
        | (refine Agg.gLoad 132 (blkC s) rfl rfl rfl (by decide +kernel) h132 hc ?_; simp only [Act.put, List.setIfInBounds_toArray, List.set_cons_succ, List.set_cons_zero])
        | (refine Agg.allocRow 36 (blkC zeroB).toArray rfl rfl (by kernel_rfl) ?_; simp only [Act.put, List.setIfInBounds_toArray, List.set_cons_succ, List.set_cons_zero])
        | (refine Agg.gStoreNew 132 (blkC s) rfl rfl rfl rfl rfl rfl (by decide +kernel) h132 (by simp [zero132]) h1 ?_; simp only [Act.put])
        | (refine Agg.gLoadB 132 (Blk.new _ _ (blkC s).toArray) h132 rfl rfl rfl (by decide +kernel) ?_; simp only [Act.put, List.setIfInBounds_toArray, List.set_cons_succ, List.set_cons_zero]))
      obtain ⟨wo, hwo⟩ : ∃ x, x = wr := ⟨_, rfl⟩
      subst hwo
      have hsz := HB.out.size
      clear hc h1
      go_loopw [15, 3] (fun i v wr => ∃ j : Nat, j ≤ 4 ∧ i = .int .i64 j ∧ v = .int .u64 (grS (S ++ s.take j) : Int) ∧ Below w.heap.size w wr) (fun i _ _ => 4 - (intOf i).toNat)
      case atStart => exact ⟨0, by omega, rfl, by simp, bel_alloc HB.out _⟩
      case round =>
        obtain ⟨j, hj, rfl, rfl, hb⟩ := hrel
        have HB3 := Lib.hid hb
        clear hb
        by_cases hlt2 : j < 4
        · have hjb : j < s.length := by rw [HK.out.1]; exact hlt2
          have hel := blkC_sec s HK.out.len j hjb []
          rw [List.append_nil] at hel
          have h33 := secC_length _ (HK.out.len _ (List.getElem_mem hjb))
          have h1 := secC_one s[j]
          have HG := Lib.hid (grS_take S s j hjb)
          generalize s[j] = t at *
          have hmx : max (grS (S ++ s.take j) : Int) (t.1 : Int) = ((max (grS (S ++ s.take j)) t.1 : Nat) : Int) := by omega
          go_wp2_with (first
            | (refine Agg.gIndexRow aiB (by decide +kernel) (secC t) hlt2 hel rfl rfl rfl rfl ?_; simp only [Act.put, List.setIfInBounds_toArray, List.set_cons_succ, List.set_cons_zero])
            | (refine Agg.allocRow 34 sec0.toArray rfl rfl (by kernel_rfl) ?_; simp only [Act.put, List.setIfInBounds_toArray, List.set_cons_succ, List.set_cons_zero])
            | (refine Agg.gStoreNew 33 (secC t) rfl rfl rfl rfl rfl rfl (by decide +kernel) h33 sec0_size h1 ?_; simp only [Act.put])
            | (refine Agg.max2 (.tmp 18) (.tmp 20) _ _ rfl rfl rfl rfl hmx ?_; simp only [Act.put, List.setIfInBounds_toArray, List.set_cons_succ, List.set_cons_zero]))
          go_roundw
          case rel => exact ⟨j + 1, by omega, by go_num, by rw [HG.out], bel_alloc HB3.out _⟩
          case measure => simp [intOf]; omega
        · obtain rfl : j = 4 := by omega
          have e4 : s.take 4 = s := List.take_of_length_le (by rw [HK.out.1]; exact Nat.le_refl _)
          rw [e4, ← HS.out]
          go_wp2_with fail
          go_roundw
          case rel => exact ⟨k + 1, by omega, by go_num, rfl, HB3.out⟩
          case measure => simp [intOf]; omega
    · obtain rfl : k = l.length := by omega
      rw [List.take_length]
      go_wp2_with fail
      go_ret
      exact ⟨rfl, HB.out⟩
set_option maxHeartbeats 2000000 in
set_option maxRecDepth 100000 in
theorem rGreat_any (l : List (List Sec)) (hl : ∀ b ∈ l, BOk b) (v : Value) (w : World) (hv : Blks w v l) :
    Calls Try.prog 24 #[v] w fun e w' => e = .returned (.int .u64 (grB l : Int)) ∧ Below w.heap.size w w' := by
  have HL := Lib.hid hl
  have HV := Lib.hid hv
  have HC : Hid (∀ b ∈ l, (blkC b).length = 132) := Lib.hid (fun b hb => bok_cells (hl b hb))
  obtain ⟨x, cap, rfl, hcap, hmax⟩ := SlR.shape hv
  unfold maxLen at hmax
  clear hl hv
  have HB := Lib.hid (Below.refl w.heap.size w)
  go_enter Try.func24, Try.ntmps24
  go_wp2_with fail
  go_loopw [4, 3] (fun i v wr => ∃ k : Nat, k ≤ l.length ∧ i = .int .i64 k ∧ v = .int .u64 (grS (l.take k).flatten : Int) ∧ Below w.heap.size w wr) (fun i _ _ => l.length - (intOf i).toNat)
  case atStart => exact ⟨0, by omega, rfl, rfl, HB.out⟩
  case round =>
    obtain ⟨k, hk, rfl, rfl, hb⟩ := hrel
    replace HB := Lib.hid hb
    clear hb
    by_cases hlt : k < l.length
    · have HS := Lib.hid (flat_succ l k hlt)
      have HK := Lib.hid (HL.out _ (List.getElem_mem hlt))
      have HCL : Hid (∀ wr, Below w.heap.size w wr → ∃ b o, x = some ⟨b, o, none⟩ ∧ ∀ i v, (blkC l[k])[i]? = some v → wr.cell? ⟨b, o + (k : Int).toNat * 132 + i, none⟩ = some v) := by
        refine Lib.hid (fun wr hb => ?_)
        obtain ⟨b, o, cap', hve, _, _, _, _⟩ := SlR.pos HV.out (by decide) (by omega)
        simp only [Value.slice.injEq, true_and] at hve
        obtain ⟨rfl, rfl⟩ := hve
        exact ⟨b, o, rfl, blks_at (SlR.keep HV.out hb) HC.out hlt⟩
      obtain ⟨S, hS⟩ : ∃ S, S = (l.take k).flatten := ⟨_, rfl⟩
      rw [← hS] at HS ⊢
      clear hS
      generalize l[k] = s at *
      go_wp2_with fail
      obtain ⟨wo, hwo⟩ : ∃ x, x = wr := ⟨_, rfl⟩
      subst hwo
      go_loopw [5, 3] (fun i v wr => ∃ j : Nat, j ≤ 4 ∧ i = .int .i64 j ∧ v = .int .u64 (grS (S ++ s.take j) : Int) ∧ Below w.heap.size w wr) (fun i _ _ => 4 - (intOf i).toNat)
      case atStart => exact ⟨0, by omega, rfl, by simp, HB.out⟩
      case round =>
        obtain ⟨j, hj, rfl, rfl, hb⟩ := hrel
        have HB3 := Lib.hid hb
        obtain ⟨b, o, rfl, hc⟩ := HCL.out wr hb
        clear hb
        by_cases hlt2 : j < 4
        · have hjb : j < s.length := by rw [HK.out.1]; exact hlt2
          have hel := blkC_stamp s HK.out.len j hjb []
          rw [List.append_nil] at hel
          have hcc : wr.cell? ⟨b, o + k * 132 + j * 33, none⟩ = some (.int .u64 (s[j].1 : Int)) := hc _ _ hel
          have HG := Lib.hid (grS_take S s j hjb)
          clear hel hc
          generalize s[j] = t at *
          by_cases hq : (t.1 : Int) > (grS (S ++ s.take j) : Int)
          · have HM : Hid (t.1 = max (grS (S ++ s.take j)) t.1) := by show _ = _; omega
            go_wp2_with fail
            go_roundw
            case rel => exact ⟨j + 1, by omega, by go_num, by rw [HG.out, ← HM.out], HB3.out⟩
            case measure => simp [intOf]; omega
          · have HM : Hid (grS (S ++ s.take j) = max (grS (S ++ s.take j)) t.1) := by show _ = _; omega
            go_wp2_with fail
            go_roundw
            case rel => exact ⟨j + 1, by omega, by go_num, by rw [HG.out, ← HM.out], HB3.out⟩
            case measure => simp [intOf]; omega
        · obtain rfl : j = 4 := by omega
          have e4 : s.take 4 = s := List.take_of_length_le (by rw [HK.out.1]; exact Nat.le_refl _)
          rw [e4, ← HS.out]
          go_wp2_with fail
          go_roundw
          case rel => exact ⟨k + 1, by omega, by go_num, rfl, HB3.out⟩
          case measure => simp [intOf]; omega
    · obtain rfl : k = l.length := by omega
      rw [List.take_length]
      go_wp2_with fail
      go_ret
      exact ⟨rfl, HB.out⟩
end Go.Proofs.Ytoeofoihkkhpfaa
