/-
  THE DOCUMENT's NUMBERS (layer 1): plus.
-/
import Derived.Test.YtchpkgneloiidaaPmW3
section
namespace Go.Proofs.Ytchpkgneloiidaa
open Go.ChangeShapes Go.WideShapes Go.ChangeAt Go.RowKit Agg Wd

/-- how far two sizes are put together -/
structure PI (A B : List Nat) (s k c : Nat) (l : List Nat) : Prop where
  c1 : c ≤ 1
  len : l.length = k
  lt : ∀ d ∈ l, d < 2
  eq : val l + 2 ^ k * (c + val (A.drop k) + val (B.drop k)) = s
  low : k = 0 ∨ 2 ^ (k - 1) ≤ s
theorem PI.step {A B : List Nat} {s k c : Nat} {l : List Nat} (h : PI A B s k c l) (x y : Nat) (hx : val (A.drop k) = x + 2 * val (A.drop (k + 1))) (hy : val (B.drop k) = y + 2 * val (B.drop (k + 1))) (hx2 : x < 2) (hy2 : y < 2) (hp : 2 ^ k ≤ s) :
    PI A B s (k + 1) ((c + x + y) / 2) (l ++ [(c + x + y) % 2]) := by
  have hc := h.c1
  refine ⟨by omega, by rw [List.length_append, h.len]; rfl, fun d hd => ?_, ?_, .inr (by simpa using hp)⟩
  · rcases List.mem_append.1 hd with hd | hd
    · exact h.lt d hd
    · simp only [List.mem_cons, List.not_mem_nil, or_false] at hd
      subst hd; omega
  · have he := h.eq
    rw [val_snoc, h.len, Nat.pow_succ]
    rw [hx, hy] at he
    rw [← he]
    generalize val (A.drop (k + 1)) = X
    generalize val (B.drop (k + 1)) = Y
    have e : c + (x + 2 * X) + (y + 2 * Y) = (c + x + y) % 2 + 2 * ((c + x + y) / 2 + X + Y) := by omega
    have e3 : ∀ D E : Nat, val l + 2 ^ k * D + 2 ^ k * 2 * E = val l + 2 ^ k * (D + 2 * E) := fun D E => by rw [Nat.mul_add, Nat.mul_assoc, Nat.add_assoc]
    rw [e3, e]
theorem PI.done {A B : List Nat} {s k c : Nat} {l : List Nat} (h : PI A B s k c l) (hA : A.length ≤ k) (hB : B.length ≤ k) (hc : c = 0) : digs s = l := by
  have he := h.eq
  rw [val_drop_none A k hA, val_drop_none B k hB, hc] at he
  have hv : val l = s := by simpa using he
  have := canon l h.lt (by
    rcases h.low with h0 | h0
    · left; exact List.eq_nil_of_length_eq_zero (by rw [h.len, h0])
    · by_cases hk : k = 0
      · left; exact List.eq_nil_of_length_eq_zero (by rw [h.len, hk])
      · right; rw [h.len, hv]; exact h0)
  rwa [hv] at this
theorem pow_mono {i j : Nat} (h : i ≤ j) : 2 ^ i ≤ 2 ^ j := Nat.pow_le_pow_right (by decide) h
theorem low_of {n k : Nat} (h : k < (digs n).length) : 2 ^ k ≤ n := by
  have hp : 0 < n := by
    rcases Nat.eq_zero_or_pos n with h0 | h0
    · subst h0; rw [digs_zero] at h; simp at h
    · exact h0
  exact Nat.le_trans (pow_mono (by omega)) (digs_low hp)
theorem PI.few {a b k c : Nat} {l : List Nat} (h : PI (digs a) (digs b) (a + b) k c l) (hg : k < (digs a).length ∨ k < (digs b).length ∨ 0 < c) : 2 ^ k ≤ a + b ∧ k ≤ max (digs a).length (digs b).length := by
  rcases hg with h1 | h1 | h1
  · exact ⟨Nat.le_trans (low_of h1) (by omega), by omega⟩
  · exact ⟨Nat.le_trans (low_of h1) (by omega), by omega⟩
  · have he := h.eq
    have h2 : 2 ^ k ≤ a + b := by
      rw [← he]
      exact Nat.le_trans (Nat.le_mul_of_pos_right _ (by omega)) (Nat.le_add_left _ _)
    refine ⟨h2, ?_⟩
    apply Classical.byContradiction
    intro hgt
    have ha := digs_high a
    have hb := digs_high b
    have e1 : 2 ^ (digs a).length ≤ 2 ^ (max (digs a).length (digs b).length) := pow_mono (by omega)
    have e2 : 2 ^ (digs b).length ≤ 2 ^ (max (digs a).length (digs b).length) := pow_mono (by omega)
    have e3 : 2 ^ (max (digs a).length (digs b).length + 1) ≤ 2 ^ k := pow_mono (by omega)
    rw [Nat.pow_succ] at e3
    omega
set_option maxHeartbeats 4000000 in
set_option maxRecDepth 100000 in
theorem plus_any (a b : Nat) (ha : (digs a).length ≤ 1000) (hb : (digs b).length ≤ 1000) (u v : Value) (w : World) (hu : NB w u a) (hv : NB w v b) :
    Calls Try.prog 53 #[u, v] w fun e w' => ∃ z, e = .returned z ∧ NB w' z (a + b) ∧ Below w.heap.size w w' := by
  have HA := Lib.hid (digs_lt a)
  have HBD := Lib.hid (digs_lt b)
  have HFEW : Hid (∀ k c l, PI (digs a) (digs b) (a + b) k c l → (k < (digs a).length ∨ k < (digs b).length ∨ 0 < c) → 2 ^ k ≤ a + b ∧ k ≤ max (digs a).length (digs b).length) := Lib.hid (fun k c l h hg => h.few hg)
  have h0 : PI (digs a) (digs b) (a + b) 0 0 [] := ⟨by omega, rfl, (fun d hd => by cases hd), by simp [val, val_digs], .inl rfl⟩
  have H0 := Lib.hid h0
  have HU : Hid (SlR w u 1 (digs a).length (iD (digs a))) := Lib.hid hu
  have HV : Hid (SlR w v 1 (digs b).length (iD (digs b))) := Lib.hid hv
  clear hu hv h0
  generalize a + b = s at *
  generalize digs a = A at *
  generalize digs b = B at *
  obtain ⟨x, cx, rfl, hcx, hmx⟩ := HU.out.shape
  obtain ⟨y, cy, rfl, hcy, hmy⟩ := HV.out.shape
  unfold maxLen at hmx hmy
  have HB := Lib.hid (Below.refl w.heap.size w)
  go_enter Try.func53, Try.ntmps53
  go_wp2_with fail
  go_loopw [7, 5, 6] (fun i v c wr => ∃ (k q : Nat) (l : List Nat), i = .int .i64 k ∧ c = .int .i64 q ∧ PI A B s k q l ∧ wr.ownsRow w.heap.size 3 1 v k (iD l) ∧ Below w.heap.size w wr) (fun i _ _ _ => max A.length B.length + 1 - (intOf i).toNat)
  case atStart => exact ⟨0, 0, [], rfl, rfl, H0.out, World.ownsRow_nil _ _ _ _, HB.out⟩
  case round =>
    obtain ⟨k, q, l, rfl, rfl, hi, ho, hb⟩ := hrel
    replace HB := Lib.hid hb
    have HI := Lib.hid hi
    have HO := Lib.hid ho
    have HU2 := Lib.hid (HU.out.keep hb)
    have HV2 := Lib.hid (HV.out.keep hb)
    obtain ⟨xo, co, rfl, _, _⟩ := (ownSl ho).shape
    have hq1 := hi.c1
    clear hb hi ho H0
    have hsz := HB.out.size
    have HXA : Hid (∀ h : k < A.length, val (A.drop k) = A[k] + 2 * val (A.drop (k + 1))) := Lib.hid (fun h => val_drop A k h)
    have HXB : Hid (∀ h : k < B.length, val (B.drop k) = B[k] + 2 * val (B.drop (k + 1))) := Lib.hid (fun h => val_drop B k h)
    have HNA : Hid (¬ k < A.length → val (A.drop k) = 0 + 2 * val (A.drop (k + 1))) := Lib.hid (fun h => by rw [val_drop_none A k (by omega), val_drop_none A (k + 1) (by omega)])
    have HNB : Hid (¬ k < B.length → val (B.drop k) = 0 + 2 * val (B.drop (k + 1))) := Lib.hid (fun h => by rw [val_drop_none B k (by omega), val_drop_none B (k + 1) (by omega)])
    by_cases p1 : k < A.length
    · obtain ⟨hlow, hmax⟩ := HFEW.out k q l HI.out (.inl p1)
      obtain ⟨b1, o1, _, hve, _, _, hcs, _⟩ := HU2.out.pos (by decide) (by omega)
      simp only [Value.slice.injEq, true_and] at hve
      obtain ⟨rfl, rfl⟩ := hve
      have hc1 : wr.cell? ⟨b1, o1 + k, none⟩ = some (.int .i64 (A[k] : Int)) := hcs k _ (iD_get A k p1)
      have hx2 := mem_lt HA.out k p1
      have HXA2 := Lib.hid (HXA.out p1)
      clear hcs HXA HNA
      generalize A[k] = dx at *
      by_cases p2 : k < B.length
      · obtain ⟨b2, o2, _, hve, _, _, hcs2, _⟩ := HV2.out.pos (by decide) (by omega)
        simp only [Value.slice.injEq, true_and] at hve
        obtain ⟨rfl, rfl⟩ := hve
        have hc2 : wr.cell? ⟨b2, o2 + k, none⟩ = some (.int .i64 (B[k] : Int)) := hcs2 k _ (iD_get B k p2)
        have hy2 := mem_lt HBD.out k p2
        have HXB2 := Lib.hid (HXB.out p2)
        clear hcs2 HXB HNB
        generalize B[k] = dy at *
        have HST := Lib.hid (HI.out.step dx dy HXA2.out HXB2.out hx2 hy2 hlow)
        go_upto_region 11 with (fail)
        clear hc1 hc2
        rw [show (q : Int) + (dx : Int) + (dy : Int) = ((q + dx + dy : Nat) : Int) by omega]
        have HNN : q + dx + dy ≤ 3 := by omega
        generalize q + dx + dy = N at *
        have hob := HO.out.keep ((Below.refl _ wr).alloc (Nat.le_refl _) (.cells #[.int .i64 ((N : Int) % 2)] 3))
        have hsl := sl_new wr #[.int .i64 ((N : Int) % 2)] 3 1 1 rfl (by decide)
        go_wp2_with (refine Agg.append2 tiN _ _ rfl rfl w.heap.size rfl hob rfl hsl (by simp [Value.oneCell']) (by unfold maxLen; omega) (by omega) (by simp only [World.size_alloc]; omega) ?_; intro v3 w3 ho3 hg3 _; simp only [Act.put, List.setIfInBounds_toArray, List.set_cons_succ, List.set_cons_zero])
        have hbw : Below w.heap.size w w3 := (HB.out.alloc hsz _).trans (grown_below hg3 (by simp only [World.size_alloc]; omega) (own_block hob))
        have ho4 : w3.ownsRow w.heap.size 3 1 v3 (k + 1) (iD (l ++ [N % 2])) := by
          rw [iD_append]
          have e : ((N % 2 : Nat) : Int) = (N : Int) % 2 := by omega
          show World.ownsRow _ _ _ _ _ _ (iD l ++ [Value.int .i64 ((N % 2 : Nat) : Int)])
          rw [e]; exact ho3
        obtain ⟨x3, c3, rfl, _, _⟩ := (ownSl ho3).shape
        go_roundw
        case rel => exact ⟨k + 1, N / 2, l ++ [N % 2], by go_num, by congr 1, HST.out, ho4, hbw⟩
        case measure => simp only [intOf]; omega
      · have HXB2 := Lib.hid (HNB.out p2)
        clear HXB HNB
        have HST := Lib.hid (HI.out.step dx 0 HXA2.out HXB2.out hx2 (by decide) hlow)
        go_upto_region 11 with (fail)
        clear hc1
        rw [show (q : Int) + (dx : Int) = ((q + dx + 0 : Nat) : Int) by omega]
        have HNN : q + dx + 0 ≤ 3 := by omega
        generalize q + dx + 0 = N at *
        have hob := HO.out.keep ((Below.refl _ wr).alloc (Nat.le_refl _) (.cells #[.int .i64 ((N : Int) % 2)] 3))
        have hsl := sl_new wr #[.int .i64 ((N : Int) % 2)] 3 1 1 rfl (by decide)
        go_wp2_with (refine Agg.append2 tiN _ _ rfl rfl w.heap.size rfl hob rfl hsl (by simp [Value.oneCell']) (by unfold maxLen; omega) (by omega) (by simp only [World.size_alloc]; omega) ?_; intro v3 w3 ho3 hg3 _; simp only [Act.put, List.setIfInBounds_toArray, List.set_cons_succ, List.set_cons_zero])
        have hbw : Below w.heap.size w w3 := (HB.out.alloc hsz _).trans (grown_below hg3 (by simp only [World.size_alloc]; omega) (own_block hob))
        have ho4 : w3.ownsRow w.heap.size 3 1 v3 (k + 1) (iD (l ++ [N % 2])) := by
          rw [iD_append]
          have e : ((N % 2 : Nat) : Int) = (N : Int) % 2 := by omega
          show World.ownsRow _ _ _ _ _ _ (iD l ++ [Value.int .i64 ((N % 2 : Nat) : Int)])
          rw [e]; exact ho3
        obtain ⟨x3, c3, rfl, _, _⟩ := (ownSl ho3).shape
        go_roundw
        case rel => exact ⟨k + 1, N / 2, l ++ [N % 2], by go_num, by congr 1, HST.out, ho4, hbw⟩
        case measure => simp only [intOf]; omega
    · have HXA2 := Lib.hid (HNA.out p1)
      clear HXA HNA
      by_cases p2 : k < B.length
      · obtain ⟨hlow, hmax⟩ := HFEW.out k q l HI.out (.inr (.inl p2))
        obtain ⟨b2, o2, _, hve, _, _, hcs2, _⟩ := HV2.out.pos (by decide) (by omega)
        simp only [Value.slice.injEq, true_and] at hve
        obtain ⟨rfl, rfl⟩ := hve
        have hc2 : wr.cell? ⟨b2, o2 + k, none⟩ = some (.int .i64 (B[k] : Int)) := hcs2 k _ (iD_get B k p2)
        have hy2 := mem_lt HBD.out k p2
        have HXB2 := Lib.hid (HXB.out p2)
        clear hcs2 HXB HNB
        generalize B[k] = dy at *
        have HST := Lib.hid (HI.out.step 0 dy HXA2.out HXB2.out (by decide) hy2 hlow)
        go_upto_region 11 with (fail)
        clear hc2
        rw [show (q : Int) + (dy : Int) = ((q + 0 + dy : Nat) : Int) by omega]
        have HNN : q + 0 + dy ≤ 3 := by omega
        generalize q + 0 + dy = N at *
        have hob := HO.out.keep ((Below.refl _ wr).alloc (Nat.le_refl _) (.cells #[.int .i64 ((N : Int) % 2)] 3))
        have hsl := sl_new wr #[.int .i64 ((N : Int) % 2)] 3 1 1 rfl (by decide)
        go_wp2_with (refine Agg.append2 tiN _ _ rfl rfl w.heap.size rfl hob rfl hsl (by simp [Value.oneCell']) (by unfold maxLen; omega) (by omega) (by simp only [World.size_alloc]; omega) ?_; intro v3 w3 ho3 hg3 _; simp only [Act.put, List.setIfInBounds_toArray, List.set_cons_succ, List.set_cons_zero])
        have hbw : Below w.heap.size w w3 := (HB.out.alloc hsz _).trans (grown_below hg3 (by simp only [World.size_alloc]; omega) (own_block hob))
        have ho4 : w3.ownsRow w.heap.size 3 1 v3 (k + 1) (iD (l ++ [N % 2])) := by
          rw [iD_append]
          have e : ((N % 2 : Nat) : Int) = (N : Int) % 2 := by omega
          show World.ownsRow _ _ _ _ _ _ (iD l ++ [Value.int .i64 ((N % 2 : Nat) : Int)])
          rw [e]; exact ho3
        obtain ⟨x3, c3, rfl, _, _⟩ := (ownSl ho3).shape
        go_roundw
        case rel => exact ⟨k + 1, N / 2, l ++ [N % 2], by go_num, by congr 1, HST.out, ho4, hbw⟩
        case measure => simp only [intOf]; omega
      · have HXB2 := Lib.hid (HNB.out p2)
        clear HXB HNB
        by_cases p3 : 0 < q
        · obtain ⟨hlow, hmax⟩ := HFEW.out k q l HI.out (.inr (.inr p3))
          have HST := Lib.hid (HI.out.step 0 0 HXA2.out HXB2.out (by decide) (by decide) hlow)
          go_upto_region 11 with (fail)
          have HQ0 : Hid (q = q + 0 + 0) := Lib.hid rfl
          generalize hqq : q + 0 + 0 = N at *
          obtain rfl : N = q := by omega
          have hN : N ≤ 3 := by omega
          have hob := HO.out.keep ((Below.refl _ wr).alloc (Nat.le_refl _) (.cells #[.int .i64 ((N : Int) % 2)] 3))
          have hsl := sl_new wr #[.int .i64 ((N : Int) % 2)] 3 1 1 rfl (by decide)
          go_wp2_with (refine Agg.append2 tiN _ _ rfl rfl w.heap.size rfl hob rfl hsl (by simp [Value.oneCell']) (by unfold maxLen; omega) (by omega) (by simp only [World.size_alloc]; omega) ?_; intro v3 w3 ho3 hg3 _; simp only [Act.put, List.setIfInBounds_toArray, List.set_cons_succ, List.set_cons_zero])
          have hbw : Below w.heap.size w w3 := (HB.out.alloc hsz _).trans (grown_below hg3 (by simp only [World.size_alloc]; omega) (own_block hob))
          have ho4 : w3.ownsRow w.heap.size 3 1 v3 (k + 1) (iD (l ++ [N % 2])) := by
            rw [iD_append]
            have e : ((N % 2 : Nat) : Int) = (N : Int) % 2 := by omega
            show World.ownsRow _ _ _ _ _ _ (iD l ++ [Value.int .i64 ((N % 2 : Nat) : Int)])
            rw [e]; exact ho3
          obtain ⟨x3, c3, rfl, _, _⟩ := (ownSl ho3).shape
          go_roundw
          case rel => exact ⟨k + 1, N / 2, l ++ [N % 2], by go_num, by congr 1, HST.out, ho4, hbw⟩
          case measure => simp only [intOf]; omega
        · obtain rfl : q = 0 := by omega
          have hd := HI.out.done (by omega) (by omega) rfl
          have hl := HI.out.len
          have HDL := Lib.hid (And.intro hd hl)
          clear hd hl
          go_wp2_with fail
          go_ret
          refine ⟨_, rfl, ?_, HB.out⟩
          show SlR _ _ _ _ _
          rw [HDL.out.1, HDL.out.2]
          exact ownSl HO.out
end Go.Proofs.Ytchpkgneloiidaa
end
section
/-
  THE DOCUMENT's NUMBERS (layer 1): minus.
-/
namespace Go.Proofs.Ytchpkgneloiidaa
open Go.ChangeShapes Go.WideShapes Go.ChangeAt Go.RowKit Agg Wd

/-- how far a size is taken from another one -/
structure MI (A B : List Nat) (s k c : Nat) (l : List Nat) : Prop where
  c1 : c ≤ 1
  len : l.length = k
  lt : ∀ d ∈ l, d < 2
  eq : val l + 2 ^ k * val (A.drop k) = s + 2 ^ k * (c + val (B.drop k))
theorem MI.step {A B : List Nat} {s k c : Nat} {l : List Nat} (h : MI A B s k c l) (x y D c' : Nat) (hx : val (A.drop k) = x + 2 * val (A.drop (k + 1))) (hy : val (B.drop k) = y + 2 * val (B.drop (k + 1))) (hD : D < 2) (hc' : c' ≤ 1) (he : x + 2 * c' = D + c + y) :
    MI A B s (k + 1) c' (l ++ [D]) := by
  refine ⟨hc', by rw [List.length_append, h.len]; rfl, fun d hd => ?_, ?_⟩
  · rcases List.mem_append.1 hd with hd | hd
    · exact h.lt d hd
    · simp only [List.mem_cons, List.not_mem_nil, or_false] at hd
      subst hd; exact hD
  · have hq := h.eq
    rw [val_snoc, h.len, Nat.pow_succ]
    rw [hx, hy] at hq
    generalize val (A.drop (k + 1)) = X at *
    generalize val (B.drop (k + 1)) = Y at *
    generalize 2 ^ k = p at *
    have e1 : p * (x + 2 * X) + p * (2 * c') = p * (D + c + y + 2 * X) := by rw [← Nat.mul_add, show x + 2 * X + 2 * c' = D + c + y + 2 * X by omega]
    have e2 : p * (D + c + y + 2 * X) = p * D + p * (c + y) + p * (2 * X) := by rw [← Nat.mul_add, ← Nat.mul_add, show D + (c + y) + 2 * X = D + c + y + 2 * X by omega]
    have e3 : p * (c + (y + 2 * Y)) = p * (c + y) + p * (2 * Y) := by rw [← Nat.mul_add, show c + y + 2 * Y = c + (y + 2 * Y) by omega]
    have e4 : p * 2 * X = p * (2 * X) := Nat.mul_assoc _ _ _
    have e5 : p * 2 * (c' + Y) = p * (2 * c') + p * (2 * Y) := by rw [Nat.mul_assoc, ← Nat.mul_add, Nat.mul_add 2 c' Y]
    rw [e4, e5]
    omega
theorem MI.done {A B : List Nat} {s k c : Nat} {l : List Nat} (h : MI A B s k c l) (hA : A.length ≤ k) : val l = s := by
  have he := h.eq
  have hl := val_lt l h.lt
  rw [h.len] at hl
  rw [val_drop_none A k hA, Nat.mul_zero, Nat.add_zero] at he
  rcases Nat.eq_zero_or_pos (c + val (B.drop k)) with h0 | h0
  · rw [h0, Nat.mul_zero, Nat.add_zero] at he; exact he
  · have : 2 ^ k ≤ 2 ^ k * (c + val (B.drop k)) := Nat.le_mul_of_pos_right _ h0
    omega
set_option maxHeartbeats 4000000 in
set_option maxRecDepth 100000 in
theorem minus_any (a b : Nat) (hba : b ≤ a) (ha : (digs a).length ≤ 1000) (hb : (digs b).length ≤ 1000) (u v : Value) (w : World) (hu : NB w u a) (hv : NB w v b) :
    Calls Try.prog 55 #[u, v] w fun e w' => ∃ z, e = .returned z ∧ NB w' z (a - b) ∧ Below w.heap.size w w' := by
  have HA := Lib.hid (digs_lt a)
  have HBD := Lib.hid (digs_lt b)
  have h0 : MI (digs a) (digs b) (a - b) 0 0 [] := ⟨by omega, rfl, (fun d hd => by cases hd), by simp [val, val_digs]; omega⟩
  have H0 := Lib.hid h0
  have HU : Hid (SlR w u 1 (digs a).length (iD (digs a))) := Lib.hid hu
  have HV : Hid (SlR w v 1 (digs b).length (iD (digs b))) := Lib.hid hv
  clear hu hv h0 hba
  generalize a - b = s at *
  generalize digs a = A at *
  generalize digs b = B at *
  obtain ⟨x, cx, rfl, hcx, hmx⟩ := HU.out.shape
  obtain ⟨y, cy, rfl, hcy, hmy⟩ := HV.out.shape
  unfold maxLen at hmx hmy
  have HB := Lib.hid (Below.refl w.heap.size w)
  go_enter Try.func55, Try.ntmps55
  go_wp2_with fail
  go_loopw [7, 5, 6] (fun i v c wr => ∃ (k q : Nat) (l : List Nat), k ≤ A.length ∧ i = .int .i64 k ∧ c = .int .i64 q ∧ MI A B s k q l ∧ wr.ownsRow w.heap.size 3 1 v k (iD l) ∧ Below w.heap.size w wr) (fun i _ _ _ => A.length - (intOf i).toNat)
  case atStart => exact ⟨0, 0, [], by omega, rfl, rfl, H0.out, World.ownsRow_nil _ _ _ _, HB.out⟩
  case round =>
    obtain ⟨k, q, l, hk, rfl, rfl, hi, ho, hb⟩ := hrel
    replace HB := Lib.hid hb
    have HI := Lib.hid hi
    have HO := Lib.hid ho
    have HU2 := Lib.hid (HU.out.keep hb)
    have HV2 := Lib.hid (HV.out.keep hb)
    obtain ⟨xo, co, rfl, _, _⟩ := (ownSl ho).shape
    have hq1 := hi.c1
    clear hb hi ho H0
    have hsz := HB.out.size
    by_cases p1 : k < A.length
    · obtain ⟨b1, o1, _, hve, _, _, hcs, _⟩ := HU2.out.pos (by decide) (by omega)
      simp only [Value.slice.injEq, true_and] at hve
      obtain ⟨rfl, rfl⟩ := hve
      have hc1 : wr.cell? ⟨b1, o1 + k, none⟩ = some (.int .i64 (A[k] : Int)) := hcs k _ (iD_get A k p1)
      have hx2 := mem_lt HA.out k p1
      have HXA2 := Lib.hid (val_drop A k p1)
      clear hcs
      generalize A[k] = dx at *
      by_cases p2 : k < B.length
      · obtain ⟨b2, o2, _, hve, _, _, hcs2, _⟩ := HV2.out.pos (by decide) (by omega)
        simp only [Value.slice.injEq, true_and] at hve
        obtain ⟨rfl, rfl⟩ := hve
        have hc2 : wr.cell? ⟨b2, o2 + k, none⟩ = some (.int .i64 (B[k] : Int)) := hcs2 k _ (iD_get B k p2)
        have hy2 := mem_lt HBD.out k p2
        have HXB2 := Lib.hid (val_drop B k p2)
        clear hcs2
        generalize B[k] = dy at *
        by_cases hneg : (dx : Int) - (q : Int) - (dy : Int) < 0
        · obtain ⟨D, hD⟩ : ∃ D : Nat, (D : Int) = (dx : Int) - (q : Int) - (dy : Int) + 2 := ⟨(dx + 2 - q - dy), by omega⟩
          have HST := Lib.hid (HI.out.step dx dy D 1 HXA2.out HXB2.out (by omega) (by omega) (by omega))
          go_upto_region 13 with (fail)
          rw [← hD]
          clear hD
          clear hc1 hc2 hneg
          have hob := HO.out.keep ((Below.refl _ wr).alloc (Nat.le_refl _) (.cells #[.int .i64 (D : Int)] 3))
          have hsl := sl_new wr #[.int .i64 (D : Int)] 3 1 1 rfl (by decide)
          go_wp2_with (refine Agg.append2 tiN _ _ rfl rfl w.heap.size rfl hob rfl hsl (by simp [Value.oneCell']) (by unfold maxLen; omega) (by omega) (by simp only [World.size_alloc]; omega) ?_; intro v3 w3 ho3 hg3 _; simp only [Act.put, List.setIfInBounds_toArray, List.set_cons_succ, List.set_cons_zero])
          have hbw : Below w.heap.size w w3 := (HB.out.alloc hsz _).trans (grown_below hg3 (by simp only [World.size_alloc]; omega) (own_block hob))
          have ho4 : w3.ownsRow w.heap.size 3 1 v3 (k + 1) (iD (l ++ [D])) := by rw [iD_append]; exact ho3
          obtain ⟨x3, c3, rfl, _, _⟩ := (ownSl ho3).shape
          go_roundw
          case rel => exact ⟨k + 1, 1, l ++ [D], by omega, by go_num, rfl, HST.out, ho4, hbw⟩
          case measure => simp only [intOf]; omega
        · obtain ⟨D, hD⟩ : ∃ D : Nat, (D : Int) = (dx : Int) - (q : Int) - (dy : Int) := ⟨(dx - q - dy), by omega⟩
          have HST := Lib.hid (HI.out.step dx dy D 0 HXA2.out HXB2.out (by omega) (by omega) (by omega))
          go_upto_region 13 with (fail)
          rw [← hD]
          clear hD
          clear hc1 hc2 hneg
          have hob := HO.out.keep ((Below.refl _ wr).alloc (Nat.le_refl _) (.cells #[.int .i64 (D : Int)] 3))
          have hsl := sl_new wr #[.int .i64 (D : Int)] 3 1 1 rfl (by decide)
          go_wp2_with (refine Agg.append2 tiN _ _ rfl rfl w.heap.size rfl hob rfl hsl (by simp [Value.oneCell']) (by unfold maxLen; omega) (by omega) (by simp only [World.size_alloc]; omega) ?_; intro v3 w3 ho3 hg3 _; simp only [Act.put, List.setIfInBounds_toArray, List.set_cons_succ, List.set_cons_zero])
          have hbw : Below w.heap.size w w3 := (HB.out.alloc hsz _).trans (grown_below hg3 (by simp only [World.size_alloc]; omega) (own_block hob))
          have ho4 : w3.ownsRow w.heap.size 3 1 v3 (k + 1) (iD (l ++ [D])) := by rw [iD_append]; exact ho3
          obtain ⟨x3, c3, rfl, _, _⟩ := (ownSl ho3).shape
          go_roundw
          case rel => exact ⟨k + 1, 0, l ++ [D], by omega, by go_num, rfl, HST.out, ho4, hbw⟩
          case measure => simp only [intOf]; omega
      · have HXB2 : Hid (val (B.drop k) = 0 + 2 * val (B.drop (k + 1))) := Lib.hid (by rw [val_drop_none B k (by omega), val_drop_none B (k + 1) (by omega)])
        by_cases hneg : (dx : Int) - (q : Int) < 0
        · obtain ⟨D, hD⟩ : ∃ D : Nat, (D : Int) = (dx : Int) - (q : Int) + 2 := ⟨(dx + 2 - q), by omega⟩
          have HST := Lib.hid (HI.out.step dx 0 D 1 HXA2.out HXB2.out (by omega) (by omega) (by omega))
          go_upto_region 13 with (fail)
          rw [← hD]
          clear hD
          clear hc1 hneg
          have hob := HO.out.keep ((Below.refl _ wr).alloc (Nat.le_refl _) (.cells #[.int .i64 (D : Int)] 3))
          have hsl := sl_new wr #[.int .i64 (D : Int)] 3 1 1 rfl (by decide)
          go_wp2_with (refine Agg.append2 tiN _ _ rfl rfl w.heap.size rfl hob rfl hsl (by simp [Value.oneCell']) (by unfold maxLen; omega) (by omega) (by simp only [World.size_alloc]; omega) ?_; intro v3 w3 ho3 hg3 _; simp only [Act.put, List.setIfInBounds_toArray, List.set_cons_succ, List.set_cons_zero])
          have hbw : Below w.heap.size w w3 := (HB.out.alloc hsz _).trans (grown_below hg3 (by simp only [World.size_alloc]; omega) (own_block hob))
          have ho4 : w3.ownsRow w.heap.size 3 1 v3 (k + 1) (iD (l ++ [D])) := by rw [iD_append]; exact ho3
          obtain ⟨x3, c3, rfl, _, _⟩ := (ownSl ho3).shape
          go_roundw
          case rel => exact ⟨k + 1, 1, l ++ [D], by omega, by go_num, rfl, HST.out, ho4, hbw⟩
          case measure => simp only [intOf]; omega
        · obtain ⟨D, hD⟩ : ∃ D : Nat, (D : Int) = (dx : Int) - (q : Int) := ⟨(dx - q), by omega⟩
          have HST := Lib.hid (HI.out.step dx 0 D 0 HXA2.out HXB2.out (by omega) (by omega) (by omega))
          go_upto_region 13 with (fail)
          rw [← hD]
          clear hD
          clear hc1 hneg
          have hob := HO.out.keep ((Below.refl _ wr).alloc (Nat.le_refl _) (.cells #[.int .i64 (D : Int)] 3))
          have hsl := sl_new wr #[.int .i64 (D : Int)] 3 1 1 rfl (by decide)
          go_wp2_with (refine Agg.append2 tiN _ _ rfl rfl w.heap.size rfl hob rfl hsl (by simp [Value.oneCell']) (by unfold maxLen; omega) (by omega) (by simp only [World.size_alloc]; omega) ?_; intro v3 w3 ho3 hg3 _; simp only [Act.put, List.setIfInBounds_toArray, List.set_cons_succ, List.set_cons_zero])
          have hbw : Below w.heap.size w w3 := (HB.out.alloc hsz _).trans (grown_below hg3 (by simp only [World.size_alloc]; omega) (own_block hob))
          have ho4 : w3.ownsRow w.heap.size 3 1 v3 (k + 1) (iD (l ++ [D])) := by rw [iD_append]; exact ho3
          obtain ⟨x3, c3, rfl, _, _⟩ := (ownSl ho3).shape
          go_roundw
          case rel => exact ⟨k + 1, 0, l ++ [D], by omega, by go_num, rfl, HST.out, ho4, hbw⟩
          case measure => simp only [intOf]; omega
    · obtain rfl : k = A.length := by omega
      have HVAL := Lib.hid (HI.out.done (Nat.le_refl _))
      have HLT := Lib.hid HI.out.lt
      have hlen := HI.out.len
      have hs : SlR wr (.slice xo A.length co) 1 l.length (iD l) := by rw [hlen]; exact ownSl HO.out
      go_wp2_with fail
      refine (trim_any l HLT.out (by omega) _ wr hs).mono ?_
      rintro e w1 ⟨z, rfl, hz, hb⟩
      replace HB := Lib.hid (HB.out.trans (hb.mono HB.out.size))
      clear hb
      rw [HVAL.out] at hz
      obtain ⟨xz, cz, rfl, _, _⟩ := SlR.shape hz
      have HZ := Lib.hid hz
      clear hz hs
      go_wp2_with fail
      go_ret
      exact ⟨_, rfl, HZ.out, HB.out⟩
end Go.Proofs.Ytchpkgneloiidaa
end
