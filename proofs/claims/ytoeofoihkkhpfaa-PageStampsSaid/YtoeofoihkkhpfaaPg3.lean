/-
  PAGES: own, and the document's Right, Stamped, Same.
-/
import Derived.Test.YtoeofoihkkhpfaaPg2
namespace Go.Proofs.Ytoeofoihkkhpfaa
open Go.ChangeShapes Go.WideShapes Go.ChangeAt Go.RowKit Agg Pg

theorem stamped_any (n : Nat) (w : World) (r : Bool) (hr : decide (stampP n) = r) :
    Calls Try.prog 17 #[.int .u64 (n : Int)] w fun e w' => e = .returned (.bool r) ∧ Below w.heap.size w w' := by
  by_cases h1 : 1 ≤ n
  · by_cases h2 : n ≤ 4611686018427387904
    · have HR : Hid (r = true) := by show _ = _; rw [← hr]; exact decide_eq_true ⟨h1, h2⟩
      have q1 : (n : Int) ≥ 1 := by omega
      have q2 : (n : Int) ≤ 4611686018427387904 := by omega
      clear hr h1 h2
      have HB := Lib.hid (Below.refl w.heap.size w)
      go_enter Try.func17, Try.ntmps17
      go_wp2_with fail
      go_ret
      exact ⟨by rw [HR.out]; rfl, HB.out⟩
    · have HR : Hid (r = false) := by show _ = _; rw [← hr]; exact decide_eq_false (fun h => h2 h.2)
      have q1 : (n : Int) ≥ 1 := by omega
      have q2 : ¬ (n : Int) ≤ 4611686018427387904 := by omega
      clear hr h1 h2
      have HB := Lib.hid (Below.refl w.heap.size w)
      go_enter Try.func17, Try.ntmps17
      go_wp2_with fail
      go_ret
      exact ⟨by rw [HR.out]; rfl, HB.out⟩
  · have HR : Hid (r = false) := by show _ = _; rw [← hr]; exact decide_eq_false (fun h => h1 h.1)
    have q1 : ¬ (n : Int) ≥ 1 := by omega
    clear hr h1
    have HB := Lib.hid (Below.refl w.heap.size w)
    go_enter Try.func17, Try.ntmps17
    go_wp2_with fail
    go_ret
    exact ⟨by rw [HR.out]; rfl, HB.out⟩
theorem right_any (kind : Int) (d : List UInt8) (dv : Value) (w : World) (hd : Bytes w dv d) (r : Bool) (he : decide (pageP kind d) = r) :
    Calls Try.prog 12 #[.agg #[.int .i64 kind, dv]] w fun e w' => e = .returned (.bool r) ∧ Below w.heap.size w w' := by
  obtain ⟨x, cap, rfl, hc, hm⟩ := SlR.shape hd
  have hc3 : cap ≤ 9223372036854775807 := by unfold maxLen at hm; omega
  clear hd hm
  by_cases h1 : kind ≥ 1
  · by_cases h2 : kind ≤ 4
    · by_cases h3 : (d.length : Int) ≤ 120
      · have HR : Hid (r = true) := by show _ = _; rw [← he]; exact decide_eq_true ⟨by omega, by omega, by omega⟩
        clear he
        have HB := Lib.hid (Below.refl w.heap.size w)
        go_enter Try.func12, Try.ntmps12
        go_wp2_with fail
        go_ret
        exact ⟨by rw [HR.out]; rfl, bel_alloc HB.out _⟩
      · have HR : Hid (r = false) := by show _ = _; rw [← he]; exact decide_eq_false (fun h => by have := h.2.2; omega)
        clear he
        have HB := Lib.hid (Below.refl w.heap.size w)
        go_enter Try.func12, Try.ntmps12
        go_wp2_with fail
        go_ret
        exact ⟨by rw [HR.out]; rfl, bel_alloc HB.out _⟩
    · have HR : Hid (r = false) := by show _ = _; rw [← he]; exact decide_eq_false (fun h => by have := h.2.1; omega)
      clear he
      have HB := Lib.hid (Below.refl w.heap.size w)
      go_enter Try.func12, Try.ntmps12
      go_wp2_with fail
      go_ret
      exact ⟨by rw [HR.out]; rfl, bel_alloc HB.out _⟩
  · have HR : Hid (r = false) := by show _ = _; rw [← he]; exact decide_eq_false (fun h => by have := h.1; omega)
    clear he
    have HB := Lib.hid (Below.refl w.heap.size w)
    go_enter Try.func12, Try.ntmps12
    go_wp2_with fail
    go_ret
    exact ⟨by rw [HR.out]; rfl, bel_alloc HB.out _⟩
set_option maxRecDepth 100000 in
set_option maxHeartbeats 1000000 in
theorem own_any (kind : Int) (d : List UInt8) (dv : Value) (w : World) (hd : Bytes w dv d) :
    Calls Try.prog 11 #[.agg #[.int .i64 kind, dv]] w fun e w' => ∃ u, e = .returned (.agg #[.int .i64 kind, u]) ∧ Bytes w' u (d.take 200) ∧ Below w.heap.size w w' := by
  obtain ⟨x, cap, rfl, hc, hm⟩ := SlR.shape hd
  have hc3 : cap ≤ 9223372036854775807 := by unfold maxLen at hm; omega
  have ht : d.take 200 = d.take (min d.length 200) := by rw [List.take_eq_take_min]; congr 1; omega
  have hs0 := bytes_take hd (min d.length 200) (Nat.min_le_left _ _)
  have hm2 : min d.length 200 ≤ d.length := Nat.min_le_left _ _
  have hm3 : min d.length 200 ≤ 200 := Nat.min_le_right _ _
  have hme : min (d.length : Int) 200 = ((min d.length 200 : Nat) : Int) := by omega
  have hle : (d.take (min d.length 200)).length = min d.length 200 := by rw [List.length_take]; omega
  rw [ht]
  generalize d.take (min d.length 200) = t at *
  generalize min d.length 200 = m at *
  have hmc : (m : Int) ≤ cap := by omega
  have hs1 : SlR w (.slice x m cap) 1 m (bv t) := by rw [← hle] at hs0 ⊢; exact hs0
  have hs := Lib.hid (hs1.keep ((((Below.refl w.heap.size w).alloc (Nat.le_refl _) (.cells #[.int .i64 kind, .slice x d.length cap] 24)).alloc (by simp only [World.size_alloc]; omega) (.cells #[.int .i64 0, .slice none 0 0] 24)).alloc (by simp only [World.size_alloc]; omega) (.cells #[] 5)))
  have hown : Hid ((((w.alloc (.cells #[.int .i64 kind, .slice x d.length cap] 24)).alloc (.cells #[.int .i64 0, .slice none 0 0] 24)).alloc (.cells #[] 5)).ownsRow (w.heap.size + 1 + 1) 5 1 (.slice (some ⟨w.heap.size + 1 + 1, 0, none⟩) 0 0) 0 []) := by
    have := World.ownsRow_lit (e := 5) (size := 1) (base := w.heap.size + 1 + 1) ((w.alloc (.cells #[.int .i64 kind, .slice x d.length cap] 24)).alloc (.cells #[.int .i64 0, .slice none 0 0] 24)) #[] 0 (by simp only [World.size_alloc]; omega) (by decide) rfl
    rw [World.size_alloc, World.size_alloc] at this
    exact this
  have HL := Lib.hid hle
  have H1 : Hid (Blk (((w.alloc (.cells #[.int .i64 kind, .slice x d.length cap] 24)).alloc (.cells #[.int .i64 0, .slice none 0 0] 24)).alloc (.cells #[] 5)) w.heap.size 24 [.int .i64 kind, .slice x d.length cap]) := Lib.hid (((Blk.new w 24 #[.int .i64 kind, .slice x d.length cap]).al _).al _)
  have H2 : Hid (Blk (((w.alloc (.cells #[.int .i64 kind, .slice x d.length cap] 24)).alloc (.cells #[.int .i64 0, .slice none 0 0] 24)).alloc (.cells #[] 5)) (w.heap.size + 1) 24 [.int .i64 0, .slice none 0 0]) := Lib.hid ((Blk.newAt (w.alloc _) 24 #[.int .i64 0, .slice none 0 0] (w.heap.size + 1) (by simp)).al _)
  clear hd hm hs0 hs1 ht
  have HB := Lib.hid (Below.refl w.heap.size w)
  go_enter Try.func11, Try.ntmps11
  go_wp2_with (first | (refine Agg.min2 _ _ _ (m : Int) rfl rfl rfl rfl (by omega) ?_; simp only [Act.put, List.setIfInBounds_toArray, List.set_cons_succ, List.set_cons_zero]) | (refine Agg.append ti25 _ _ rfl rfl (w.heap.size + 1 + 1) (v := .slice (some ⟨w.heap.size + 1 + 1, 0, none⟩) 0 0) rfl hown.out rfl hs.out (bv_one t) (by unfold maxLen; omega) (by omega) (by simp only [World.size_alloc]; omega) ?_; intro v' w' ho hg hnil; simp only [Act.put, List.setIfInBounds_toArray, List.set_cons_succ, List.set_cons_zero]; rw [Nat.zero_add, List.nil_append] at ho; obtain ⟨x2, c2, rfl, _, _⟩ := (ownSl ho).shape; have hv' := ho.lt; replace H1 := Lib.hid (H1.out.grown (b := w.heap.size + 1 + 1) hg (by omega)); replace H2 := Lib.hid (H2.out.grown (b := w.heap.size + 1 + 1) hg (by omega)); have h10 := H1.out.cell 0; have h11 := H1.out.cell 1; have f11 := H1.out.frozen 1; have h20 := H2.out.cell 0; have h21 := H2.out.cell 1; have f20 := H2.out.frozen 0; have f21 := H2.out.frozen 1; have hl1 := H1.out.lt; have hl2 := H2.out.lt; simp only [List.getElem?_cons_zero, List.getElem?_cons_succ] at h10 h11 h20 h21))
  have hnb : ∀ k, (Value.slice x2 m c2).ownBlock = some k → w.heap.size + 1 + 1 ≤ k := fun k hk => (hv' k hk).1
  have hbe : Below w.heap.size w w' := ((((Below.refl w.heap.size w).alloc (Nat.le_refl _) _).alloc (by simp only [World.size_alloc]; omega) _).alloc (by simp only [World.size_alloc]; omega) _).trans (grown_below hg (B := w.heap.size) (by simp only [World.size_alloc]; omega) (by simp [Value.ownBlock]; omega))
  have hby : Bytes w' (.slice x2 m c2) t := by
    have := ownSl ho
    show SlR _ _ _ _ _
    rw [HL.out]; exact this
  refine bodyPost_ret (v := .agg #[.int .i64 kind, .slice x2 m c2]) (by simp [results, Try.results11, go_sem, *]) rfl ⟨_, rfl, ?_, ?_⟩
  · refine Bytes.grown ?_ (set_grown _ _ _) ?_
    · refine Bytes.grown ?_ (set_grown _ _ _) ?_
      · refine Bytes.grown hby (set_grown _ _ _) ?_
        intro k hk e
        have := hnb k e
        simp at hk; omega
      · intro k hk e
        have := hnb k e
        simp at hk; omega
    · intro k hk e
      have := hnb k e
      simp at hk; omega
  · refine Below.setCell (Below.setCell (Below.setCell hbe ?_ _) ?_ _) ?_ _ <;> simp
end Go.Proofs.Ytoeofoihkkhpfaa
