/-
  THE WALK OF LAYER 15's STATEMENT CrcSums (crc).
-/
import Derived.Test.YthbljhiabgkabaaCrcLaw2
import Derived.Test.YthbljhiabgkabaaAgg2
namespace Go.Proofs.Ythbljhiabgkabaa
open Go.ChangeShapes Go.WideShapes Go.ChangeAt Go.RowKit Agg

theorem ti22 : TI Try.prog 22 25 1 24 (.slice none 0 0) := ⟨by kernel_rfl, by kernel_rfl, rfl, by decide⟩

/-- what is cut off -/
def cutB (l : List UInt8) : List UInt8 := l.take 500
def SumsRel (w0 : World) (ls : List (List UInt8)) (k : Nat) (lv av : Value) (w : World) : Prop :=
  ∃ vs : List Value, Below w0.heap.size w0 w ∧ w.ownsRow w0.heap.size 25 1 lv k vs ∧ w.ownsRow w0.heap.size 5 1 av ((ls.take k).map cutB).flatten.length (bv ((ls.take k).map cutB).flatten) ∧
    (∀ u ∈ vs, u.oneCell' = true) ∧ ∀ (i : Nat) (l : List UInt8), (ls.take k)[i]? = some l → ∃ u : Value, vs[i]? = some u ∧ w.ownsRow w0.heap.size 5 1 u (cutB l).length (bv (cutB l)) ∧ u.ownBlock ≠ none ∧ u.ownBlock ≠ av.ownBlock
theorem own_keep {w w' : World} {b : Nat} {e : TypeId} {sz : Nat} {v : Value} {n : Nat} {xs : List Value} (h : w.ownsRow b e sz v n xs) (hb : Below w.heap.size w w') : w'.ownsRow b e sz v n xs := by
  refine ⟨h.1, ?_⟩
  rcases h.2 with h2 | ⟨g, cap, cur, hv, hg, hh, r⟩
  · exact .inl h2
  · exact .inr ⟨g, cap, cur, hv, hg, by rw [hb.block g (Array.getElem?_eq_some_iff.1 hh).1]; exact hh, r⟩
theorem own_mono {w : World} {b b' : Nat} {e : TypeId} {sz : Nat} {v : Value} {n : Nat} {xs : List Value} (h : w.ownsRow b e sz v n xs) (hb : b' ≤ b) : w.ownsRow b' e sz v n xs := by
  refine ⟨h.1, ?_⟩
  rcases h.2 with h2 | ⟨g, cap, cur, hv, hg, r⟩
  · exact .inl h2
  · exact .inr ⟨g, cap, cur, hv, Nat.le_trans hb hg, r⟩
theorem cut_len (l : List UInt8) : min l.length 500 = (cutB l).length := by simp [cutB, Nat.min_comm]

theorem flat_le (ls : List (List UInt8)) : (ls.map cutB).flatten.length ≤ 500 * ls.length := by
  induction ls with
  | nil => simp
  | cons l ls ih => simp only [List.map_cons, List.flatten_cons, List.length_append, List.length_cons]; have : (cutB l).length ≤ 500 := by simp [cutB]; omega
                    omega

set_option maxHeartbeats 1000000 in
theorem CrcSums_walk (v : Value) (ls : List (List UInt8)) (a1 : Int) (w : World) (hv : Rows2 w v ls) (hml : ∀ l ∈ ls, l.length ≤ maxLen) (hs : (Lit.int .u32 a1).wf = true) :
    Calls Try.prog 3 #[v, .int .u32 a1] w fun e w' => e = .returned (.bool true) ∧ Below w.heap.size w w' := by
  obtain ⟨s, rfl⟩ := u32_bv hs
  clear hs
  obtain ⟨vs, hsl, hrows⟩ := hv
  obtain ⟨x, cap, rfl, hc1, hc2⟩ := hsl.shape
  have hc3 : cap ≤ 9223372036854775807 := by unfold maxLen at hc2; omega
  clear hc2
  generalize hn : ls.length = n at *
  have HN := Lib.hid hn
  have HM := Lib.hid hml
  have HR := Lib.hid hrows
  have HSL := Lib.hid hsl
  clear hn hml hrows hsl
  go_enter Try.func3, Try.ntmps3
  go_wp2_with fail
  refine (wakes_any w).mono ?_
  rintro e w1 ⟨rfl, hb1⟩
  have HB1 := Lib.hid hb1
  clear hb1
  go_wp2_with fail
  go_loopw [5, 6, 13] (fun lv av i wr => ∃ k : Nat, k ≤ n ∧ k ≤ 8 ∧ i = .int .i64 k ∧ SumsRel w ls k lv av wr) (fun _ _ i _ => n - (intOf i).toNat)
  case atStart => exact ⟨0, by omega, by omega, rfl, [], HB1.out, World.ownsRow_nil _ _ _ _, World.ownsRow_nil _ _ _ _, by simp, by simp⟩
  case round =>
    obtain ⟨k, hk, hk8, rfl, hrel⟩ := hrel
    obtain ⟨ws, hb, hlo, hao, hone, hel⟩ := hrel
    have HB := Lib.hid hb
    have HLO := Lib.hid hlo
    have HAO := Lib.hid hao
    have HE := Lib.hid hel
    have HO := Lib.hid hone
    clear hb hlo hao hel hone
    by_cases hlt : k < n ∧ k < 8
    · obtain ⟨hkn, hk8'⟩ := hlt
      have hkl : k < ls.length := by rw [HN.out]; exact hkn
      have HF := Lib.hid (flat_le (ls.take k))
      obtain ⟨b, o, cap', hve, _, _, hcs, hbl⟩ := SlR.pos HSL.out (by decide) (by omega)
      simp only [Value.slice.injEq, true_and] at hve
      obtain ⟨rfl, rfl⟩ := hve
      obtain ⟨u, hu, hby⟩ := HR.out k _ (List.getElem?_eq_getElem hkl)
      have hck : wr.cell? ⟨b, o + k, none⟩ = some u := cell_keep HB.out (hcs k _ hu)
      have HBY := Lib.hid (hby.keep HB.out)
      have HBY0 := Lib.hid hby
      obtain ⟨ux, uc, rfl, _, _⟩ := hby.shape
      have HT := Lib.hid (List.take_succ_eq_append_getElem hkl)
      have hne8 : ((k : Int) == 8) = false := by simp; omega
      clear hcs hby hu
      generalize ls[k] = l at *
      go_wp2_with fail
      refine (own_bytes_any l _ wr HBY.out).mono ?_
      rintro e w2 ⟨g, c2, rfl, ho2, hb2⟩
      rw [cut_len] at ho2 ⊢
      have HO2 := Lib.hid ho2
      have HB2 := Lib.hid hb2
      clear ho2 hb2
      generalize hm : (cutB l).length = m at *
      have HMM := Lib.hid hm
      have hm5 : m ≤ 500 := by rw [← hm]; simp [cutB]; omega
      clear hm
      have hrow := World.ownsRow_lit (e := 25) (size := 1) (base := w2.heap.size) w2 #[.slice (some ⟨g, 0, none⟩) m c2] 1 (Nat.le_refl _) (by decide) rfl
      have HROW := Lib.hid (ownSl hrow)
      have HL3 := Lib.hid ((own_keep HLO.out HB2.out).alloc (.cells #[.slice (some ⟨g, 0, none⟩) m c2] 25))
      clear hrow
      have hsz : w.heap.size ≤ w2.heap.size := Nat.le_trans HB.out.size HB2.out.size
      go_wp2_with (refine Agg.append2 ti22 _ _ rfl rfl w.heap.size (v := u5) rfl HL3.out rfl HROW.out (by intro q hq; simp at hq; subst hq; rfl) (by unfold maxLen; omega) (by omega) (by simp; omega) ?_; intro lv' w4 hlo hg hwh; simp only [Act.put, List.setIfInBounds_toArray, List.set_cons_succ, List.set_cons_zero]; have HLO4 := Lib.hid hlo; have HG4 := Lib.hid hg; clear hlo hg hwh)
      have hb4 : Below w.heap.size w w4 := (HB.out.trans (HB2.out.mono HB.out.size)).trans (((Below.refl _ w2).alloc hsz _).trans (grown_below HG4.out (by simp; omega) (own_block HLO.out)))
      have HB4 := Lib.hid hb4
      have hz4 := hb4.size
      clear hb4
      refine (own_bytes_any l _ w4 (HBY0.out.keep HB4.out)).mono ?_
      rintro e w5 ⟨g2, c5, rfl, ho5, hb5⟩
      rw [cut_len, HMM.out] at ho5 ⊢
      have HO5 := Lib.hid ho5
      have HB5 := Lib.hid hb5
      clear ho5 hb5
      have ha4 : w4.ownsRow w.heap.size 5 1 u6 ((ls.take k).map cutB).flatten.length (bv ((ls.take k).map cutB).flatten) :=
        ((own_keep HAO.out HB2.out).alloc _).kept HG4.out (elem_apart HAO.out HLO.out (by decide))
      have HA5 := Lib.hid (own_keep ha4 HB5.out)
      have HA4 := Lib.hid ha4
      clear ha4
      have hfl : ((ls.take k).map cutB).flatten.length ≤ 4000 := by
        have h1 := HF.out
        have h2 : (ls.take k).length ≤ k := List.length_take_le _ _
        omega
      have hz5 : w.heap.size ≤ w5.heap.size := Nat.le_trans hz4 HB5.out.size
      have hbm : (bv (cutB l)).length = m := by rw [bv_length, HMM.out]
      have HBM := Lib.hid hbm
      clear hbm
      generalize hfl2 : ((ls.take k).map cutB).flatten.length = fl at *
      have HFL := Lib.hid hfl2
      clear hfl2
      go_wp2_with (refine Agg.append2 ti25 _ _ rfl rfl w.heap.size (v := u6) rfl HA5.out rfl (ownSl HO5.out) (bv_one _) (by unfold maxLen; omega) (by omega) hz5 ?_; intro av' w6 hao hg hwh; simp only [Act.put, List.setIfInBounds_toArray, List.set_cons_succ, List.set_cons_zero]; have HAO6 := Lib.hid hao; have HG6 := Lib.hid hg; have HWH := Lib.hid hwh; clear hao hg hwh)
      go_roundw
      case rel =>
        refine ⟨k + 1, by omega, by omega, by go_num, ws ++ [.slice (some ⟨g, 0, none⟩) m c2], ?_, ?_, ?_, ?_, ?_⟩
        · exact (HB4.out.trans (HB5.out.mono hz4)).trans (grown_below HG6.out hz5 (own_block HA5.out))
        · exact (own_keep HLO4.out HB5.out).kept HG6.out (elem_apart (own_keep HLO4.out HB5.out) HA5.out (by decide))
        · have e1 : ((ls.take (k + 1)).map cutB).flatten = ((ls.take k).map cutB).flatten ++ cutB l := by
            rw [HT.out, List.map_append, List.flatten_append]; simp
          rw [e1, bv_append, List.length_append, HFL.out, HMM.out]
          exact HAO6.out
        · intro q hq
          rcases List.mem_append.1 hq with h | h
          · exact HO.out q h
          · simp at h; subst h; rfl
        · intro i l' hl'
          rw [HT.out] at hl'
          have hlk : (ls.take k).length = k := by rw [List.length_take]; omega
          have hwl : ws.length = k := by have := HLO.out.1; omega
          have hsz6 := HG6.out.size
          have keep6 : ∀ (q : Value) (nn : Nat) (xs : List Value), w5.ownsRow w.heap.size 5 1 q nn xs → q.ownBlock ≠ none → q.ownBlock ≠ u6.ownBlock →
              (∀ kk, q.ownBlock = some kk → kk < w5.heap.size) → w6.ownsRow w.heap.size 5 1 q nn xs ∧ q.ownBlock ≠ none ∧ q.ownBlock ≠ av'.ownBlock := by
            intro q nn xs h1 h2 h3 h4
            refine ⟨h1.kept HG6.out (.inr h3), h2, ?_⟩
            rcases HWH.out with h | h
            · rw [h]; exact h3
            · rw [h]
              intro e
              have := h4 _ e
              omega
          by_cases hi : i < k
          · rw [List.getElem?_append_left (by omega)] at hl'
            obtain ⟨q, hq, hqo, hq1, hq2⟩ := HE.out i l' hl'
            have h5 : w5.ownsRow w.heap.size 5 1 q (cutB l').length (bv (cutB l')) :=
              own_keep (((own_keep hqo HB2.out).alloc (.cells #[.slice (some ⟨g, 0, none⟩) m c2] 25)).kept HG4.out (elem_apart hqo HLO.out (by decide))) HB5.out
            obtain ⟨r1, r2, r3⟩ := keep6 q _ _ h5 hq1 hq2 (fun kk hkk => (h5.lt kk hkk).2)
            exact ⟨q, by rw [List.getElem?_append_left (by omega)]; exact hq, r1, r2, r3⟩
          · have hik : i = k := by
              have := (List.getElem?_eq_some_iff.1 hl').1
              simp at this
              omega
            subst hik
            rw [List.getElem?_append_right (by omega), hlk] at hl'
            simp only [Nat.sub_self, List.getElem?_cons_zero, Option.some.injEq] at hl'
            subst hl'
            have hwr : w.heap.size ≤ wr.heap.size := HB.out.size
            have hq2 : w2.ownsRow w.heap.size 5 1 (.slice (some ⟨g, 0, none⟩) m c2) m (bv (cutB l)) := own_mono HO2.out hwr
            have hap : (Value.slice (some ⟨g, 0, none⟩) m c2).ownBlock = none ∨ (Value.slice (some ⟨g, 0, none⟩) m c2).ownBlock ≠ u5.ownBlock := elem_apart hq2 (own_keep HLO.out HB2.out) (by decide)
            have h5 : w5.ownsRow w.heap.size 5 1 (.slice (some ⟨g, 0, none⟩) m c2) m (bv (cutB l)) :=
              own_keep ((hq2.alloc (.cells #[.slice (some ⟨g, 0, none⟩) m c2] 25)).kept HG4.out hap) HB5.out
            have hne : (Value.slice (some ⟨g, 0, none⟩) m c2).ownBlock ≠ u6.ownBlock := by
              intro e
              have h1 := (HO2.out.lt g rfl).1
              have h2 := (HAO.out.lt g e.symm).2
              omega
            obtain ⟨r1, r2, r3⟩ := keep6 _ _ _ h5 (by simp [Value.ownBlock]) hne (fun kk hkk => (h5.lt kk hkk).2)
            rw [HMM.out]
            exact ⟨_, by rw [List.getElem?_append_right (by omega), hwl]; simp, r1, r2, r3⟩
      case measure => simp [intOf]; omega
    · have hlk : (ls.take k).length = k := by rw [List.length_take, HN.out]; omega
      have hrw : Rows2 wr u5 ((ls.take k).map cutB) := by
        refine ⟨ws, ?_, fun i l hl => ?_⟩
        · rw [List.length_map, hlk]; exact ownSl HLO.out
        · rw [List.getElem?_map] at hl
          obtain ⟨l', hl', rfl⟩ := Option.map_eq_some_iff.1 hl
          obtain ⟨q, hq, hqo, _, _⟩ := HE.out i l' hl'
          exact ⟨q, hq, ownSl hqo⟩
      have hsm : ∀ l ∈ (ls.take k).map cutB, l.length ≤ maxLen := by
        intro l hl
        obtain ⟨l', _, rfl⟩ := List.mem_map.1 hl
        have : (cutB l').length ≤ 500 := by simp [cutB]; omega
        unfold maxLen; omega
      have hf : ((ls.take k).map cutB).flatten.length ≤ 500 * k := by have := flat_le (ls.take k); rw [hlk] at this; exact this
      have HRW := Lib.hid hrw
      have HSM := Lib.hid hsm
      have HF := Lib.hid hf
      have HAB : Hid (Bytes wr u6 ((ls.take k).map cutB).flatten) := ownSl HAO.out
      clear hrw hsm hf hlk
      have hex : k = n ∨ (k < n ∧ k = 8) := by omega
      clear hlt
      rcases hex with hkn | ⟨hkn, hk8e⟩
      · have hnl : decide ((k : Int) < n) = false := by simp; omega
        have hge : ¬ (k : Int) < n := by omega
        clear hkn hk
        go_wp2_with fail
        refine (sum_any ((ls.take k).map cutB) u5 wr HRW.out HSM.out).mono ?_
        rintro e w2 ⟨rfl, hb2⟩
        have HB2 := Lib.hid (HB.out.trans (hb2.mono HB.out.size))
        have HA2 := Lib.hid (HAB.out.keep hb2)
        clear hb2
        generalize hfl : ((ls.take k).map cutB).flatten = fl at *
        have HFL := Lib.hid hfl
        clear hfl
        go_wp2_with fail
        refine (rsum_any fl u6 w2 HA2.out).mono ?_
        rintro e w3 ⟨rfl, rfl⟩
        go_wp2_with fail
        refine (more_any s fl u6 w2 HA2.out (by unfold maxLen; have := HF.out; omega)).mono ?_
        rintro e w3 ⟨rfl, hb3⟩
        have HB3 := Lib.hid (HB2.out.trans (hb3.mono HB2.out.size))
        have HA3 := Lib.hid (HA2.out.keep hb3)
        clear hb3
        go_wp2_with fail
        refine (rmore_any s fl u6 w3 HA3.out).mono ?_
        rintro e w4 ⟨rfl, rfl⟩
        go_wp2_with fail
        go_ret
        exact ⟨rfl, HB3.out⟩
      · have hkl : k < ls.length := by rw [HN.out]; exact hkn
        obtain ⟨b, o, cap', hve, _, _, hcs, hbl⟩ := SlR.pos HSL.out (by decide) (by omega)
        simp only [Value.slice.injEq, true_and] at hve
        obtain ⟨rfl, rfl⟩ := hve
        obtain ⟨u, hu, hby⟩ := HR.out k _ (List.getElem?_eq_getElem hkl)
        have hck : wr.cell? ⟨b, o + k, none⟩ = some u := cell_keep HB.out (hcs k _ hu)
        have he8 : ((k : Int) == 8) = true := by simp; omega
        clear hcs hby hu hk8e
        go_wp2_with fail
        refine (sum_any ((ls.take k).map cutB) u5 wr HRW.out HSM.out).mono ?_
        rintro e w2 ⟨rfl, hb2⟩
        have HB2 := Lib.hid (HB.out.trans (hb2.mono HB.out.size))
        have HA2 := Lib.hid (HAB.out.keep hb2)
        clear hb2
        generalize hfl : ((ls.take k).map cutB).flatten = fl at *
        have HFL := Lib.hid hfl
        clear hfl
        go_wp2_with fail
        refine (rsum_any fl u6 w2 HA2.out).mono ?_
        rintro e w3 ⟨rfl, rfl⟩
        go_wp2_with fail
        refine (more_any s fl u6 w2 HA2.out (by unfold maxLen; have := HF.out; omega)).mono ?_
        rintro e w3 ⟨rfl, hb3⟩
        have HB3 := Lib.hid (HB2.out.trans (hb3.mono HB2.out.size))
        have HA3 := Lib.hid (HA2.out.keep hb3)
        clear hb3
        go_wp2_with fail
        refine (rmore_any s fl u6 w3 HA3.out).mono ?_
        rintro e w4 ⟨rfl, rfl⟩
        go_wp2_with fail
        go_ret
        exact ⟨rfl, HB3.out⟩
end Go.Proofs.Ythbljhiabgkabaa
