/-
  ROOTS: the document's Same, Has, Right.
-/
import Derived.Test.YtjnnnnolikbjcaaRtM
section
namespace Go.Proofs.Ytjnnnnolikbjcaa
open Go.ChangeShapes Go.WideShapes Go.ChangeAt Go.RowKit Agg Pg Dv
attribute [local go_sem] Oper.semAt_some

set_option maxHeartbeats 4000000 in
set_option maxRecDepth 100000 in
theorem samePg_any (P Q : List Int) (u v : Value) (w : World) (hu : Ints w u P) (hv : Ints w v Q) (r : Bool) (hr : decide (P = Q) = r) :
    Calls Try.prog 51 #[u, v] w fun e w' => e = .returned (.bool r) ∧ Below w.heap.size w w' := by
  obtain ⟨x, xc, rfl, hx1, hx2⟩ := ints_shape hu
  obtain ⟨y, yc, rfl, hy1, hy2⟩ := ints_shape hv
  unfold maxLen at hx2 hy2
  have HU := Lib.hid hu
  have HV := Lib.hid hv
  have HR := Lib.hid hr
  clear hu hv hr
  have HB := Lib.hid (Below.refl w.heap.size w)
  go_enter Try.func51, Try.ntmps51
  clear HB
  by_cases hlen : P.length = Q.length
  · have HLE := Lib.hid hlen
    have hne : ((P.length : Int) != (Q.length : Int)) = false := by rw [hlen]; simp
    go_wp2_with fail
    clear hne
    go_loopw [5] (fun i wr => ∃ k : Nat, k ≤ P.length ∧ i = .int .i64 k ∧ Below w.heap.size w wr ∧ P.take k = Q.take k) (fun i _ => P.length - (intOf i).toNat)
    case atStart => exact ⟨0, by omega, rfl, Below.refl _ _, rfl⟩
    case round =>
      obtain ⟨k, hk, rfl, hb, htk⟩ := hrel
      have HB := Lib.hid hb
      have HTK := Lib.hid htk
      have hu2 := SlR.keep HU.out hb
      have hv2 := SlR.keep HV.out hb
      clear hb htk
      obtain ⟨wA, hwA⟩ : ∃ x, x = wr := ⟨_, rfl⟩
      subst hwA
      by_cases hlt : k < P.length
      · have hltq : k < Q.length := by have := HLE.out; omega
        obtain ⟨b, o, cap', hve, _⟩ := SlR.pos hu2 (by decide) (by omega)
        injection hve with q1 q2 q3
        subst q1
        clear q2 q3
        obtain ⟨b2, o2, cap2, hve, _⟩ := SlR.pos hv2 (by decide) (by omega)
        injection hve with q1 q2 q3
        subst q1
        clear q2 q3
        have HC1 := Lib.hid (ints_at hu2 hlt)
        have HC2 := Lib.hid (ints_at hv2 hltq)
        obtain ⟨A, hA⟩ : ∃ A, P[k] = A := ⟨_, rfl⟩
        obtain ⟨B, hB⟩ : ∃ B, Q[k] = B := ⟨_, rfl⟩
        have hst1 := List.take_succ_eq_append_getElem hlt
        have hst2 := List.take_succ_eq_append_getElem hltq
        rw [hA] at HC1 hst1
        rw [hB] at HC2 hst2
        obtain ⟨q, hq⟩ : ∃ q, (A != B) = q := ⟨_, rfl⟩
        have HST : Hid (q = false → P.take (k + 1) = Q.take (k + 1)) := Lib.hid (fun h => by
          rw [hst1, hst2, HTK.out]
          rw [h] at hq
          simp at hq
          rw [hq])
        have HNE : Hid (q = true → P ≠ Q) := Lib.hid (fun h e => by
          rw [h] at hq
          subst e
          simp at hq
          exact hq (hA.symm.trans hB))
        have HQ := Lib.hid hq
        clear hA hB hst1 hst2 hq hu2 hv2
        go_upto_region 6 with (fail)
        refine Agg.chainR 9 (by kernel_rfl) (by kernel_rfl) ?_
        simp only [List.take_succ_cons, List.take_zero, List.drop_succ_cons, List.drop_zero]
        refine Agg.chMove rfl rfl rfl rfl ?_
        refine Agg.chMove rfl rfl rfl rfl ?_
        refine Agg.chIA tiInt (by omega) (by omega) rfl rfl rfl rfl rfl ?_
        refine Agg.chLoad rfl rfl rfl rfl (by decide +kernel) (by simp only [Int.toNat_natCast, Nat.mul_one]; exact HC1.out) ?_
        refine Agg.chMove rfl rfl rfl rfl ?_
        refine Agg.chMove rfl rfl rfl rfl ?_
        refine Agg.chIA tiInt (by omega) (by omega) rfl rfl rfl rfl rfl ?_
        refine Agg.chLoad rfl rfl rfl rfl (by decide +kernel) (by simp only [Int.toNat_natCast, Nat.mul_one]; exact HC2.out) ?_
        refine Agg.chNe q HQ.out rfl rfl rfl rfl rfl ?_
        refine Agg.chEnd ?_
        intro vs w21 hb _
        refine Agg.wpNil ?_
        simp only [List.reverse, List.reverseAux, Agg.fill, List.set_cons_succ, List.set_cons_zero]
        replace HB := Lib.hid (HB.out.trans (hb.mono HB.out.size))
        clear hb
        cases q
        · have hs := HST.out rfl
          go_wp2_with fail
          exact ⟨⟨k + 1, by omega, by go_num, HB.out, hs⟩, by simp [intOf]; omega⟩
        · obtain rfl : r = false := by rw [← HR.out]; simpa using HNE.out rfl
          go_wp2_with fail
          go_ret
          exact ⟨rfl, HB.out⟩
      · obtain rfl : k = P.length := by omega
        have he : P = Q := by
          have h := HTK.out
          rw [List.take_length, HLE.out, List.take_length] at h
          exact h
        obtain rfl : r = true := by rw [← HR.out]; simpa using he
        clear he hu2 hv2
        go_wp2_with fail
        go_ret
        exact ⟨rfl, HB.out⟩
  · obtain rfl : r = false := by rw [← HR.out]; simpa using (fun e => hlen (by rw [e]))
    have hne : ((P.length : Int) != (Q.length : Int)) = true := by simp; omega
    clear hlen
    go_wp2_with fail
    go_ret
    exact ⟨rfl, Below.refl _ _⟩
set_option maxHeartbeats 4000000 in
set_option maxRecDepth 100000 in
theorem dSame_any (a b : Rt) (u v : Value) (w : World) (hu : RtR w u a) (hv : RtR w v b) (r : Bool) (hr : decide (a = b) = r) :
    Calls Try.prog 22 #[u, v] w fun e w' => e = .returned (.bool r) ∧ Below w.heap.size w w' := by
  obtain ⟨x, rfl, hx⟩ := hu.ex
  obtain ⟨y, rfl, hy⟩ := hv.ex
  have HE := Lib.hid (fun W h1 h2 => samePg_any a.pages b.pages x y W h1 h2 _ rfl)
  obtain ⟨q, hq⟩ : ∃ q, decide (a.pages = b.pages) = q := ⟨_, rfl⟩
  rw [hq] at HE
  have HQ := Lib.hid hq
  have HX := Lib.hid hx
  have HY := Lib.hid hy
  have HR : Hid (∀ c : Bool, (c = true ↔ (a.slot = b.slot ∧ a.stamp = b.stamp ∧ a.bytes = b.bytes ∧ a.pages = b.pages)) → c = r) := Lib.hid (fun c hc => by
    rw [← hr]
    rw [Bool.eq_iff_iff, hc, decide_eq_true_eq]
    exact rt_ext a b)
  clear hx hy hu hv hq hr
  obtain ⟨s1, st1, ps1, by1⟩ := a
  obtain ⟨s2, st2, ps2, by2⟩ := b
  unfold rtV
  dsimp only at HE HQ HX HY HR ⊢
  have HB := Lib.hid (Below.refl w.heap.size w)
  go_enter Try.func22, Try.ntmps22
  by_cases h1 : s1 = s2
  · subst h1
    have e1 : (s1 == s1) = true := by simp
    by_cases h2 : st1 = st2
    · subst h2
      have e2 : ((st1 : Int) == (st1 : Int)) = true := by simp
      by_cases h3 : by1 = by2
      · subst h3
        have e3 : (by1 == by1) = true := by simp
        go_wp2_with fail
        clear e1 e2 e3
        refine Agg.calls_at fun w1 hw1 => ?_
        have hb : Below w.heap.size w w1 := by rw [hw1.out]; repeat (first | exact Below.refl _ _ | refine Agg.bel_drew ?_ | refine Agg.bel_alloc ?_ _)
        replace HB := Lib.hid (HB.out.trans (hb.mono HB.out.size))
        replace HX := Lib.hid (HX.out.keep hb)
        replace HY := Lib.hid (HY.out.keep hb)
        clear hb
        clear hw1
        refine (HE.out w1 HX.out HY.out).mono ?_
        rintro e w2 ⟨rfl, hb⟩
        replace HB := Lib.hid (HB.out.trans (hb.mono HB.out.size))
        replace HX := Lib.hid (HX.out.keep hb)
        replace HY := Lib.hid (HY.out.keep hb)
        clear hb
        obtain rfl := HR.out q (by rw [← HQ.out]; simp)
        go_wp2_with fail
        go_ret
        exact ⟨rfl, HB.out⟩
      · have e3 : (by1 == by2) = false := by simpa using h3
        obtain rfl := HR.out false (by simp [h3])
        clear h3
        go_wp2_with fail
        go_ret
        exact ⟨rfl, bel_alloc (bel_alloc HB.out _) _⟩
    · have e2 : ((st1 : Int) == (st2 : Int)) = false := by simpa using (fun h => h2 (by omega))
      obtain rfl := HR.out false (by simp [h2])
      clear h2
      go_wp2_with fail
      go_ret
      exact ⟨rfl, bel_alloc (bel_alloc HB.out _) _⟩
  · have e1 : (s1 == s2) = false := by simpa using h1
    obtain rfl := HR.out false (by simp [h1])
    clear h1
    go_wp2_with fail
    go_ret
    exact ⟨rfl, bel_alloc (bel_alloc HB.out _) _⟩

set_option maxHeartbeats 4000000 in
set_option maxRecDepth 100000 in
theorem hasI_any (P : List Int) (z : Int) (u : Value) (w : World) (hu : Ints w u P) (r : Bool) (hr : P.contains z = r) :
    Calls Try.prog 55 #[u, .int .i64 z] w fun e w' => e = .returned (.bool r) ∧ Below w.heap.size w w' := by
  obtain ⟨x, xc, rfl, hx1, hx2⟩ := ints_shape hu
  unfold maxLen at hx2
  have HU := Lib.hid hu
  have HR := Lib.hid hr
  clear hu hr
  have HB := Lib.hid (Below.refl w.heap.size w)
  go_enter Try.func55, Try.ntmps55
  clear HB
  go_wp2_with fail
  go_loopw [5] (fun i wr => ∃ k : Nat, k ≤ P.length ∧ i = .int .i64 k ∧ (P.take k).contains z = false ∧ wr = w) (fun i _ => P.length - (intOf i).toNat)
  case atStart => exact ⟨0, by omega, rfl, rfl, rfl⟩
  case round =>
    obtain ⟨k, hk, rfl, htk, hww⟩ := hrel
    have HTK := Lib.hid htk
    clear htk
    subst hww
    have hu2 := HU.out
    by_cases hlt : k < P.length
    · obtain ⟨b, o, cap', hve, _⟩ := SlR.pos hu2 (by decide) (by omega)
      injection hve with q1 q2 q3
      subst q1
      clear q2 q3
      have hcell := ints_at hu2 hlt
      have hst := List.take_succ_eq_append_getElem hlt
      have hmem : P[k] ∈ P := List.getElem_mem hlt
      obtain ⟨A, hA⟩ : ∃ A, P[k] = A := ⟨_, rfl⟩
      rw [hA] at hcell hst hmem
      by_cases hz : A = z
      · subst hz
        obtain rfl : r = true := by rw [← HR.out]; simpa using hmem
        have hzz : (A == A) = true := by simp
        clear hst hmem hA hu2
        go_wp2_with fail
        go_ret
        exact ⟨rfl, Below.refl _ _⟩
      · have hzz : (A == z) = false := by simpa using hz
        have HS : Hid ((P.take (k + 1)).contains z = false) := Lib.hid (by
          have h := HTK.out
          rw [hst]
          simp only [List.contains_eq_mem, List.mem_append, List.mem_singleton, decide_eq_false_iff_not] at h ⊢
          exact fun h2 => h2.elim h (fun e => hz e.symm))
        clear hst hmem hA hu2 hz
        go_wp2_with fail
        exact ⟨⟨k + 1, by omega, by go_num, HS.out, (by first | rfl | trivial)⟩, by simp [intOf]; omega⟩
    · obtain rfl : k = P.length := by omega
      have h := HTK.out
      rw [List.take_length] at h
      obtain rfl : r = false := by rw [← HR.out]; exact h
      clear h hu2
      go_wp2_with fail
      go_ret
      exact ⟨rfl, Below.refl _ _⟩
end Go.Proofs.Ytjnnnnolikbjcaa
end
section
/-
  ROOTS: the document's Right.
-/
namespace Go.Proofs.Ytjnnnnolikbjcaa
open Go.ChangeShapes Go.WideShapes Go.ChangeAt Go.RowKit Agg Pg Dv
attribute [local go_sem] Oper.semAt_some

theorem rints_take {w : World} {x : Option Addr} {n c k : Nat} {L : List Int} (h : SlR w (.slice x n c) 1 L.length (iC L)) (hn : L.length = n) (hk : k ≤ n) : Ints w (.slice x k c) (L.take k) := by
  rw [hn] at h
  have h2 := slR_head h k hk
  have e : (iC L).take (k * 1) = iC (L.take k) := by rw [Nat.mul_one]; unfold iC; rw [List.map_take]
  rw [e] at h2
  show SlR _ _ 1 (L.take k).length _
  rw [List.length_take, hn, Nat.min_eq_left hk]
  exact h2
set_option maxHeartbeats 8000000 in
set_option maxRecDepth 100000 in
theorem dRight_any (r : Rt) (v : Value) (w : World) (hv : RtR w v r) (hw : RtW r) :
    Calls Try.prog 25 #[v] w fun e w' => e = .returned (.bool (rightB r)) ∧ Below w.heap.size w w' := by
  obtain ⟨sl, rfl, hs⟩ := hv.ex
  obtain ⟨x, c, rfl, hc1, hc2⟩ := ints_shape hs
  rw [right_first]
  obtain ⟨ec, hec⟩ : ∃ e : Bool, (firstB r && pagesB r.pages r.pages.length) = e := ⟨_, rfl⟩
  rw [hec]
  obtain ⟨q, hq⟩ : ∃ q, firstB r = q := ⟨_, rfl⟩
  rw [hq] at hec
  have HF := Lib.hid hq
  have HE := Lib.hid hec
  clear hec
  have HS := Lib.hid hs
  have HW := Lib.hid hw
  have hs1 := hw.s1
  have hs2 := hw.s2
  have hst := hw.st
  have hb1 := hw.b1
  have hb2 := hw.b2
  have hn0 := hw.n
  obtain ⟨s, st, L, by'⟩ := r
  dsimp only at HF HE HS HW hs1 hs2 hst hb1 hb2 hn0 ⊢
  clear hq hs hv hw hc1 hc2
  unfold rtV
  dsimp only
  obtain ⟨n, hn⟩ : ∃ n, L.length = n := ⟨_, rfl⟩
  have HN := Lib.hid hn
  rw [hn] at hn0 HS HE
  rw [hn]
  clear hn
  have HS0 := HS
  have HB := Lib.hid (Below.refl w.heap.size w)
  go_enter Try.func25, Try.ntmps25
  go_upto_region 2 with (fail)
  refine Agg.wp_at fun w1 hw1 => ?_
  have hb : Below w.heap.size w w1 := by rw [hw1.out]; repeat (first | exact Below.refl _ _ | refine Agg.bel_drew ?_ | refine Agg.bel_alloc ?_ _)
  replace HB := Lib.hid (HB.out.trans (hb.mono HB.out.size))
  replace HS := Lib.hid (HS.out.keep hb)
  clear hb
  have H1 : Hid (Blk w1 w.heap.size 26 [.int .i64 s, .int .u64 (st : Int), .slice x n c, .int .i64 by']) := by show Blk _ _ _ _; rw [hw1.out]; exact Blk.new w 26 #[.int .i64 s, .int .u64 (st : Int), .slice x n c, .int .i64 by']
  clear hw1
  obtain ⟨wZ, hwZ⟩ : ∃ x, x = w1 := ⟨_, rfl⟩
  subst hwZ
  have HBZ := HB
  have HSZ := HS
  have H1Z := H1
  clear HB HS H1
  go_cut [49] from 8 to 49 (fun s' wx => s' = .bool (!q) ∧ Below wZ.heap.size wZ wx)
  case first =>
    have HB := Lib.hid (Below.refl wZ.heap.size wZ)
    have hq2 := HF.out
    unfold firstB at hq2
    dsimp only at hq2
    rw [HN.out] at hq2
    have HQ : Hid (∀ b : Bool, (b = true ↔ ((s = 0 ∨ s = 1) ∧ 1 ≤ st ∧ st ≤ 4611686018427387904 ∧ 1 ≤ n ∧ n ≤ 57 ∧ 120 * ((n : Int) - 1) < by' ∧ by' ≤ 120 * (n : Int))) → b = q) := Lib.hid (fun b hb => by
      rw [← hq2, Bool.eq_iff_iff, hb]
      simp only [Bool.and_eq_true, Bool.or_eq_true, decide_eq_true_eq, and_assoc])
    clear hq2
    obtain ⟨sq, hsq⟩ : ∃ b, decide (stampP st) = b := ⟨_, rfl⟩
    have HSQ := Lib.hid hsq
    clear hsq
    have c0 := H1Z.out.cell 0
    have c1 := H1Z.out.cell 1
    have c2 := H1Z.out.cell 2
    have c3 := H1Z.out.cell 3
    simp only [List.getElem?_cons_zero, List.getElem?_cons_succ] at c0 c1 c2 c3
    have H1 := H1Z
    by_cases k1 : s ≠ 0 ∧ s ≠ 1
    · obtain rfl := HQ.out false (by simp; omega)
      have e0 : (s != 0) = true := by simp [k1.1]
      have e1 : (s != 1) = true := by simp [k1.2]
      go_wp2_with fail
      go_meet
      exact ⟨rfl, HB.out⟩
    · have hs01 : s = 0 ∨ s = 1 := by omega
      clear k1 c2 c3
      rcases hs01 with rfl | rfl
      · skip
        go_wp2_with fail
        clear c1
        refine (stamped_any st wZ sq HSQ.out).mono ?_
        rintro e w31 ⟨rfl, hb⟩
        replace HB := Lib.hid (HB.out.trans (hb.mono HB.out.size))
        replace H1 := Lib.hid (H1.out.keep hb)
        clear hb
        have c3 := H1.out.cell 3
        simp only [List.getElem?_cons_zero, List.getElem?_cons_succ] at c3
        cases sq
        · have hsq := of_decide_eq_false HSQ.out
          unfold stampP at hsq
          obtain rfl := HQ.out false (by simp; omega)
          clear hsq
          go_wp2_with fail
          go_meet
          exact ⟨rfl, HB.out⟩
        · have hsq := of_decide_eq_true HSQ.out
          unfold stampP at hsq
          have HSS := Lib.hid hsq
          clear hsq
          by_cases m0 : n < 1
          · obtain rfl := HQ.out false (by have := HSS.out; simp; omega)
            go_wp2_with fail
            go_meet
            exact ⟨by first | rfl | (congr 1; simp; omega), HB.out⟩
          · skip
            by_cases m1 : 57 < n
            · obtain rfl := HQ.out false (by have := HSS.out; simp; omega)
              go_wp2_with fail
              go_meet
              exact ⟨by first | rfl | (congr 1; simp; omega), HB.out⟩
            · skip
              by_cases m2 : by' < 1
              · obtain rfl := HQ.out false (by have := HSS.out; simp; omega)
                go_wp2_with fail
                go_meet
                exact ⟨by first | rfl | (congr 1; simp; omega), HB.out⟩
              · skip
                by_cases m3 : by' > 120 * (n : Int)
                · obtain rfl := HQ.out false (by have := HSS.out; simp; omega)
                  go_wp2_with fail
                  go_meet
                  exact ⟨by first | rfl | (congr 1; simp; omega), HB.out⟩
                · skip
                  by_cases m4 : by' ≤ 120 * (n : Int) - 120
                  · obtain rfl := HQ.out false (by have := HSS.out; simp; omega)
                    go_wp2_with fail
                    go_meet
                    exact ⟨by first | rfl | (congr 1; simp; omega), HB.out⟩
                  · obtain rfl := HQ.out true (by have := HSS.out; simp; omega)
                    go_wp2_with fail
                    go_meet
                    exact ⟨by first | rfl | (congr 1; simp; omega), HB.out⟩
      · skip
        go_wp2_with fail
        clear c1
        refine (stamped_any st wZ sq HSQ.out).mono ?_
        rintro e w32 ⟨rfl, hb⟩
        replace HB := Lib.hid (HB.out.trans (hb.mono HB.out.size))
        replace H1 := Lib.hid (H1.out.keep hb)
        clear hb
        have c3 := H1.out.cell 3
        simp only [List.getElem?_cons_zero, List.getElem?_cons_succ] at c3
        cases sq
        · have hsq := of_decide_eq_false HSQ.out
          unfold stampP at hsq
          obtain rfl := HQ.out false (by simp; omega)
          clear hsq
          go_wp2_with fail
          go_meet
          exact ⟨rfl, HB.out⟩
        · have hsq := of_decide_eq_true HSQ.out
          unfold stampP at hsq
          have HSS := Lib.hid hsq
          clear hsq
          by_cases m0 : n < 1
          · obtain rfl := HQ.out false (by have := HSS.out; simp; omega)
            go_wp2_with fail
            go_meet
            exact ⟨by first | rfl | (congr 1; simp; omega), HB.out⟩
          · skip
            by_cases m1 : 57 < n
            · obtain rfl := HQ.out false (by have := HSS.out; simp; omega)
              go_wp2_with fail
              go_meet
              exact ⟨by first | rfl | (congr 1; simp; omega), HB.out⟩
            · skip
              by_cases m2 : by' < 1
              · obtain rfl := HQ.out false (by have := HSS.out; simp; omega)
                go_wp2_with fail
                go_meet
                exact ⟨by first | rfl | (congr 1; simp; omega), HB.out⟩
              · skip
                by_cases m3 : by' > 120 * (n : Int)
                · obtain rfl := HQ.out false (by have := HSS.out; simp; omega)
                  go_wp2_with fail
                  go_meet
                  exact ⟨by first | rfl | (congr 1; simp; omega), HB.out⟩
                · skip
                  by_cases m4 : by' ≤ 120 * (n : Int) - 120
                  · obtain rfl := HQ.out false (by have := HSS.out; simp; omega)
                    go_wp2_with fail
                    go_meet
                    exact ⟨by first | rfl | (congr 1; simp; omega), HB.out⟩
                  · obtain rfl := HQ.out true (by have := HSS.out; simp; omega)
                    go_wp2_with fail
                    go_meet
                    exact ⟨by first | rfl | (congr 1; simp; omega), HB.out⟩
  case rest =>
    obtain ⟨rfl, hbc⟩ := hcut
    have HB := Lib.hid (HBZ.out.trans (hbc.mono HBZ.out.size))
    have H1 := Lib.hid (H1Z.out.keep hbc)
    clear hbc HBZ HSZ H1Z
    cases q
    · obtain rfl : ec = false := by rw [← HE.out]; rfl
      go_wp2_with fail
      go_ret
      exact ⟨rfl, HB.out⟩
    · have HE2 : Hid (pagesB L n = ec) := Lib.hid (by rw [← HE.out]; rfl)
      go_wp2_with fail
      obtain ⟨wY, hwY⟩ : ∃ x, x = wc := ⟨_, rfl⟩
      subst hwY
      have HBY := HB
      have H1Y := H1
      clear HB H1
      go_loopw [4] (fun ix wr => ∃ k : Nat, k ≤ n ∧ ix = .int .i64 k ∧ pagesB L k = true ∧ Below wY.heap.size wY wr) (fun ix _ => n - (intOf ix).toNat)
      case atStart => exact ⟨0, by omega, rfl, rfl, Below.refl _ _⟩
      case round =>
        obtain ⟨k, hk, rfl, hp, hb⟩ := hrel
        have HP := Lib.hid hp
        have HB := Lib.hid hb
        have H1 := Lib.hid (H1Y.out.keep hb)
        have hsr := Lib.hid (SlR.keep HS0.out (HBY.out.trans (hb.mono HBY.out.size)))
        clear hp hb
        obtain ⟨wA, hwA⟩ : ∃ x, x = wr := ⟨_, rfl⟩
        subst hwA
        by_cases hlt : k < n
        · obtain ⟨b, o, cap', hve, hcap, _⟩ := SlR.pos hsr.out (by decide) (by rw [HN.out]; omega)
          injection hve with q1 q2 q3
          subst q1
          have hcc : n ≤ c := by rw [HN.out] at hcap; omega
          clear q2 q3 hcap
          have hkL : k < L.length := by rw [HN.out]; exact hlt
          have hcell := ints_at (l := L) hsr.out hkL
          have hgd : L.getD k 0 = L[k] := by rw [List.getD_eq_getElem?_getD, List.getElem?_eq_getElem hkL]; rfl
          have hsu := pagesB_succ L k
          obtain ⟨z, hz⟩ : ∃ y, L[k] = y := ⟨_, rfl⟩
          rw [hgd, hz, HP.out] at hsu
          rw [hz] at hcell
          have HSU := Lib.hid hsu
          have HCL := Lib.hid hcell
          obtain ⟨m, hm⟩ : ∃ m, (L.take k).contains z = m := ⟨_, rfl⟩
          have HHS := Lib.hid (fun W u h => hasI_any (L.take k) z u W h m hm)
          have HM := Lib.hid hm
          clear hsu hgd hz hcell hm
          go_upto_region 7 with (fail)
          by_cases k1 : z < 18
          · have hf : pagesB L n = false := pagesB_stop (k := k + 1) (by rw [HSU.out, decide_eq_false (show ¬ 18 ≤ z by omega)]; rfl) (by omega)
            obtain rfl : ec = false := by rw [← HE2.out, hf]
            clear hf
            refine Agg.chainR 26 (by kernel_rfl) (by kernel_rfl) ?_
            simp only [List.take_succ_cons, List.take_zero, List.drop_succ_cons, List.drop_zero]
            refine Agg.chFA fo_Rt_2 rfl rfl rfl rfl ?_
            refine Agg.chLoadB H1.out (by decide +kernel) rfl rfl (by rfl) rfl rfl ?_
            refine Agg.chMove rfl rfl rfl rfl ?_
            refine Agg.chIA tiInt (by omega) (by omega) rfl rfl rfl rfl rfl ?_
            refine Agg.chLoad rfl rfl rfl rfl (by decide +kernel) (by simp only [Int.toNat_natCast, Nat.mul_one]; exact HCL.out) ?_
            refine Agg.chLt true (decide_eq_true k1) rfl rfl rfl rfl rfl ?_
            refine Agg.chMove rfl rfl rfl rfl ?_
            refine Agg.chSkip rfl rfl ?_
            refine Agg.chSkip rfl rfl ?_
            refine Agg.chSkip rfl rfl ?_
            refine Agg.chSkip rfl rfl ?_
            refine Agg.chSkip rfl rfl ?_
            refine Agg.chSkip rfl rfl ?_
            refine Agg.chPick rfl rfl rfl rfl rfl ?_
            refine Agg.chMove rfl rfl rfl rfl ?_
            refine Agg.chSkip rfl rfl ?_
            refine Agg.chSkip rfl rfl ?_
            refine Agg.chSkip rfl rfl ?_
            refine Agg.chSkip rfl rfl ?_
            refine Agg.chSkip rfl rfl ?_
            refine Agg.chSkip rfl rfl ?_
            refine Agg.chSkip rfl rfl ?_
            refine Agg.chSkip rfl rfl ?_
            refine Agg.chSkip rfl rfl ?_
            refine Agg.chSkip rfl rfl ?_
            refine Agg.chPick rfl rfl rfl rfl rfl ?_
            refine Agg.chEnd ?_
            intro vs w81 hb _
            refine Agg.wpNil ?_
            simp only [List.reverse, List.reverseAux, Agg.fill, List.set_cons_succ, List.set_cons_zero]
            replace HB := Lib.hid (HB.out.trans (hb.mono HB.out.size))
            replace H1 := Lib.hid (H1.out.keep hb)
            replace hsr := Lib.hid (hsr.out.keep hb)
            clear hb
            go_wp2_with fail
            go_ret
            exact ⟨rfl, HBY.out.trans (HB.out.mono HBY.out.size)⟩
          · by_cases k2 : z > 255
            · have hf : pagesB L n = false := pagesB_stop (k := k + 1) (by rw [HSU.out, decide_eq_false (show ¬ z ≤ 255 by omega), Bool.and_false]; rfl) (by omega)
              obtain rfl : ec = false := by rw [← HE2.out, hf]
              clear hf
              refine Agg.chainR 26 (by kernel_rfl) (by kernel_rfl) ?_
              simp only [List.take_succ_cons, List.take_zero, List.drop_succ_cons, List.drop_zero]
              refine Agg.chFA fo_Rt_2 rfl rfl rfl rfl ?_
              refine Agg.chLoadB H1.out (by decide +kernel) rfl rfl (by rfl) rfl rfl ?_
              refine Agg.chMove rfl rfl rfl rfl ?_
              refine Agg.chIA tiInt (by omega) (by omega) rfl rfl rfl rfl rfl ?_
              refine Agg.chLoad rfl rfl rfl rfl (by decide +kernel) (by simp only [Int.toNat_natCast, Nat.mul_one]; exact HCL.out) ?_
              refine Agg.chLt false (decide_eq_false k1) rfl rfl rfl rfl rfl ?_
              refine Agg.chMove rfl rfl rfl rfl ?_
              refine Agg.chFA fo_Rt_2 rfl rfl rfl rfl ?_
              refine Agg.chLoadB H1.out (by decide +kernel) rfl rfl (by rfl) rfl rfl ?_
              refine Agg.chMove rfl rfl rfl rfl ?_
              refine Agg.chIA tiInt (by omega) (by omega) rfl rfl rfl rfl rfl ?_
              refine Agg.chLoad rfl rfl rfl rfl (by decide +kernel) (by simp only [Int.toNat_natCast, Nat.mul_one]; exact HCL.out) ?_
              refine Agg.chGt true (decide_eq_true k2) rfl rfl rfl rfl rfl ?_
              refine Agg.chPick rfl rfl rfl rfl rfl ?_
              refine Agg.chMove rfl rfl rfl rfl ?_
              refine Agg.chSkip rfl rfl ?_
              refine Agg.chSkip rfl rfl ?_
              refine Agg.chSkip rfl rfl ?_
              refine Agg.chSkip rfl rfl ?_
              refine Agg.chSkip rfl rfl ?_
              refine Agg.chSkip rfl rfl ?_
              refine Agg.chSkip rfl rfl ?_
              refine Agg.chSkip rfl rfl ?_
              refine Agg.chSkip rfl rfl ?_
              refine Agg.chSkip rfl rfl ?_
              refine Agg.chPick rfl rfl rfl rfl rfl ?_
              refine Agg.chEnd ?_
              intro vs w82 hb _
              refine Agg.wpNil ?_
              simp only [List.reverse, List.reverseAux, Agg.fill, List.set_cons_succ, List.set_cons_zero]
              replace HB := Lib.hid (HB.out.trans (hb.mono HB.out.size))
              replace H1 := Lib.hid (H1.out.keep hb)
              replace hsr := Lib.hid (hsr.out.keep hb)
              clear hb
              go_wp2_with fail
              go_ret
              exact ⟨rfl, HBY.out.trans (HB.out.mono HBY.out.size)⟩
            · have hs2 := HSU.out
              rw [decide_eq_true (show (18 : Int) ≤ z by omega), decide_eq_true (show z ≤ 255 by omega), HM.out] at hs2
              have HS2 := Lib.hid hs2
              clear hs2
              refine Agg.chainR 26 (by kernel_rfl) (by kernel_rfl) ?_
              simp only [List.take_succ_cons, List.take_zero, List.drop_succ_cons, List.drop_zero]
              refine Agg.chFA fo_Rt_2 rfl rfl rfl rfl ?_
              refine Agg.chLoadB H1.out (by decide +kernel) rfl rfl (by rfl) rfl rfl ?_
              refine Agg.chMove rfl rfl rfl rfl ?_
              refine Agg.chIA tiInt (by omega) (by omega) rfl rfl rfl rfl rfl ?_
              refine Agg.chLoad rfl rfl rfl rfl (by decide +kernel) (by simp only [Int.toNat_natCast, Nat.mul_one]; exact HCL.out) ?_
              refine Agg.chLt false (decide_eq_false k1) rfl rfl rfl rfl rfl ?_
              refine Agg.chMove rfl rfl rfl rfl ?_
              refine Agg.chFA fo_Rt_2 rfl rfl rfl rfl ?_
              refine Agg.chLoadB H1.out (by decide +kernel) rfl rfl (by rfl) rfl rfl ?_
              refine Agg.chMove rfl rfl rfl rfl ?_
              refine Agg.chIA tiInt (by omega) (by omega) rfl rfl rfl rfl rfl ?_
              refine Agg.chLoad rfl rfl rfl rfl (by decide +kernel) (by simp only [Int.toNat_natCast, Nat.mul_one]; exact HCL.out) ?_
              refine Agg.chGt false (decide_eq_false k2) rfl rfl rfl rfl rfl ?_
              refine Agg.chPick rfl rfl rfl rfl rfl ?_
              refine Agg.chMove rfl rfl rfl rfl ?_
              refine Agg.chFA fo_Rt_2 rfl rfl rfl rfl ?_
              refine Agg.chLoadB H1.out (by decide +kernel) rfl rfl (by rfl) rfl rfl ?_
              refine Agg.chMove rfl rfl rfl rfl ?_
              refine Agg.chSlice none (some (.int .i64 (k : Int))) none rfl rfl rfl rfl rfl rfl rfl rfl (fun W => run_slice_upto tiInt (some ⟨b, o, none⟩) n c k (by omega) W) ?_
              refine Agg.chFA fo_Rt_2 rfl rfl rfl rfl ?_
              refine Agg.chLoadB H1.out (by decide +kernel) rfl rfl (by rfl) rfl rfl ?_
              refine Agg.chMove rfl rfl rfl rfl ?_
              refine Agg.chIA tiInt (by omega) (by omega) rfl rfl rfl rfl rfl ?_
              refine Agg.chLoad rfl rfl rfl rfl (by decide +kernel) (by simp only [Int.toNat_natCast, Nat.mul_one]; exact HCL.out) ?_
              refine Agg.chCall Try.func55 rfl (by kernel_rfl) rfl rfl rfl rfl (fun W hb => HHS.out W _ (rints_take (SlR.keep hsr.out hb) HN.out (Nat.le_of_lt hlt))) ?_
              refine Agg.chPick rfl rfl rfl rfl rfl ?_
              refine Agg.chEnd ?_
              intro vs w83 hb _
              refine Agg.wpNil ?_
              simp only [List.reverse, List.reverseAux, Agg.fill, List.set_cons_succ, List.set_cons_zero]
              replace HB := Lib.hid (HB.out.trans (hb.mono HB.out.size))
              replace H1 := Lib.hid (H1.out.keep hb)
              replace hsr := Lib.hid (hsr.out.keep hb)
              clear hb
              cases m
              · go_wp2_with fail
                exact ⟨⟨k + 1, by omega, by go_num, by rw [HS2.out]; rfl, HB.out⟩, by simp [intOf]; omega⟩
              · have hf : pagesB L n = false := pagesB_stop (k := k + 1) (by rw [HS2.out]; rfl) (by omega)
                obtain rfl : ec = false := by rw [← HE2.out, hf]
                clear hf
                go_wp2_with fail
                go_ret
                exact ⟨rfl, HBY.out.trans (HB.out.mono HBY.out.size)⟩
        · obtain rfl : k = n := by omega
          obtain rfl : ec = true := by rw [← HE2.out, HP.out]
          go_wp2_with fail
          go_ret
          exact ⟨rfl, HBY.out.trans (HB.out.mono HBY.out.size)⟩
end Go.Proofs.Ytjnnnnolikbjcaa
end
