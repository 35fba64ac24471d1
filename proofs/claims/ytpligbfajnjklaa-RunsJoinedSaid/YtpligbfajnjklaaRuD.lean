/-
  THE WALKS OF LAYER 7 (runs): the document's Below, Upto, Same, Times, Right.
-/
import Derived.Test.YtpligbfajnjklaaRuC
namespace Go.Proofs.Ytpligbfajnjklaa
open Go.ChangeShapes Go.WideShapes Go.ChangeAt Go.RowKit Agg Pg Ru


theorem nBelow_snoc (t : Int) (l : List Int) (k : Nat) (h : k < l.length) : nBelow t (l.take (k + 1)) = nBelow t (l.take k) + if l[k] < t then 1 else 0 := by
  unfold nBelow
  rw [List.take_succ_eq_append_getElem h, List.countP_append]
  by_cases e : l[k] < t <;> simp [e]
set_option maxHeartbeats 1000000 in
theorem rBelow_any (l : List Int) (v : Value) (t : Int) (w : World) (hl : Tms w v l) :
    Calls Try.prog 23 #[v, .int .i64 t] w fun e w' => e = .returned (.int .i64 (nBelow t l : Int)) ∧ Below w.heap.size w w' := by
  obtain ⟨x, cap, rfl, _⟩ := SlR.shape hl
  have HL := Lib.hid hl
  have hln := Tms.len hl
  clear hl
  have HB := Lib.hid (Below.refl w.heap.size w)
  go_enter Try.func23, Try.ntmps23
  go_wp2_with fail
  go_loopw [5, 6] (fun m i wr => ∃ k : Nat, k ≤ l.length ∧ i = .int .i64 k ∧ m = .int .i64 (nBelow t (l.take k) : Int) ∧ wr = w) (fun _ i _ => l.length - (intOf i).toNat)
  case atStart => exact ⟨0, by omega, rfl, rfl, rfl⟩
  case round =>
    obtain ⟨k, hk, rfl, rfl, rfl⟩ := hrel
    by_cases hlt : k < l.length
    · have hsn := nBelow_snoc t l k hlt
      have hle : nBelow t (l.take k) ≤ k := by
        have h1 : nBelow t (l.take k) ≤ (l.take k).length := List.countP_le_length
        rw [List.length_take] at h1; omega
      obtain ⟨b, o, cap', hve, _, _, _, _⟩ := SlR.pos HL.out (by decide) (by omega)
      simp only [Value.slice.injEq, true_and] at hve
      obtain ⟨rfl, rfl⟩ := hve
      have hcs := tms_at HL.out hlt
      rw [Int.toNat_natCast, Nat.mul_one] at hcs
      obtain ⟨u, hu⟩ : ∃ u, l[k]'hlt = u := ⟨_, rfl⟩
      rw [hu] at hsn hcs
      have HSN := Lib.hid hsn
      clear hsn hu
      generalize nBelow t (l.take k) = n at *
      by_cases hut : u < t
      · have hs : nBelow t (l.take (k + 1)) = n + 1 := by rw [HSN.out, if_pos hut]
        have HS := Lib.hid hs
        clear hs
        go_wp2_with fail
        exact ⟨⟨k + 1, by omega, by go_num, by rw [HS.out]; go_num, by first | rfl | trivial⟩, by simp [intOf]; omega⟩
      · have hs : nBelow t (l.take (k + 1)) = n := by rw [HSN.out, if_neg hut]; rfl
        have HS := Lib.hid hs
        clear hs
        go_wp2_with fail
        exact ⟨⟨k + 1, by omega, by go_num, by rw [HS.out], by first | rfl | trivial⟩, by simp [intOf]; omega⟩
    · obtain rfl : k = l.length := by omega
      rw [List.take_length]
      go_wp2_with fail
      go_ret
      exact ⟨rfl, HB.out⟩

theorem nUpto_snoc (t : Int) (l : List Int) (k : Nat) (h : k < l.length) : nUpto t (l.take (k + 1)) = nUpto t (l.take k) + if l[k] ≤ t then 1 else 0 := by
  unfold nUpto
  rw [List.take_succ_eq_append_getElem h, List.countP_append]
  by_cases e : l[k] ≤ t <;> simp [e]
set_option maxHeartbeats 1000000 in
theorem rUpto_any (l : List Int) (v : Value) (t : Int) (w : World) (hl : Tms w v l) :
    Calls Try.prog 24 #[v, .int .i64 t] w fun e w' => e = .returned (.int .i64 (nUpto t l : Int)) ∧ Below w.heap.size w w' := by
  obtain ⟨x, cap, rfl, _⟩ := SlR.shape hl
  have HL := Lib.hid hl
  have hln := Tms.len hl
  clear hl
  have HB := Lib.hid (Below.refl w.heap.size w)
  go_enter Try.func24, Try.ntmps24
  go_wp2_with fail
  go_loopw [5, 6] (fun m i wr => ∃ k : Nat, k ≤ l.length ∧ i = .int .i64 k ∧ m = .int .i64 (nUpto t (l.take k) : Int) ∧ wr = w) (fun _ i _ => l.length - (intOf i).toNat)
  case atStart => exact ⟨0, by omega, rfl, rfl, rfl⟩
  case round =>
    obtain ⟨k, hk, rfl, rfl, rfl⟩ := hrel
    by_cases hlt : k < l.length
    · have hsn := nUpto_snoc t l k hlt
      have hle : nUpto t (l.take k) ≤ k := by
        have h1 : nUpto t (l.take k) ≤ (l.take k).length := List.countP_le_length
        rw [List.length_take] at h1; omega
      obtain ⟨b, o, cap', hve, _, _, _, _⟩ := SlR.pos HL.out (by decide) (by omega)
      simp only [Value.slice.injEq, true_and] at hve
      obtain ⟨rfl, rfl⟩ := hve
      have hcs := tms_at HL.out hlt
      rw [Int.toNat_natCast, Nat.mul_one] at hcs
      obtain ⟨u, hu⟩ : ∃ u, l[k]'hlt = u := ⟨_, rfl⟩
      rw [hu] at hsn hcs
      have HSN := Lib.hid hsn
      clear hsn hu
      generalize nUpto t (l.take k) = n at *
      by_cases hut : u ≤ t
      · have hs : nUpto t (l.take (k + 1)) = n + 1 := by rw [HSN.out, if_pos hut]
        have HS := Lib.hid hs
        clear hs
        go_wp2_with fail
        exact ⟨⟨k + 1, by omega, by go_num, by rw [HS.out]; go_num, by first | rfl | trivial⟩, by simp [intOf]; omega⟩
      · have hs : nUpto t (l.take (k + 1)) = n := by rw [HSN.out, if_neg hut]; rfl
        have HS := Lib.hid hs
        clear hs
        go_wp2_with fail
        exact ⟨⟨k + 1, by omega, by go_num, by rw [HS.out], by first | rfl | trivial⟩, by simp [intOf]; omega⟩
    · obtain rfl : k = l.length := by omega
      rw [List.take_length]
      go_wp2_with fail
      go_ret
      exact ⟨rfl, HB.out⟩
set_option maxHeartbeats 2000000 in
set_option maxRecDepth 100000 in
theorem rSame_any (P Q : List Rn) (u v : Value) (w : World) (hu : Rus w u P) (hv : Rus w v Q) (hP : ∀ b ∈ P, Rw b) (hQ : ∀ b ∈ Q, Rw b) (r : Bool) (hr : decide (P = Q) = r) :
    Calls Try.prog 40 #[u, v] w fun e w' => e = .returned (.bool r) ∧ Below w.heap.size w w' := by
  obtain ⟨x, cap, rfl, hc1, hc2⟩ := SlR.shape hu
  obtain ⟨y, dap, rfl, hd1, hd2⟩ := SlR.shape hv
  unfold maxLen at hc2 hd2
  have HU := Lib.hid hu
  have HV := Lib.hid hv
  have HP := Lib.hid hP
  have HQ := Lib.hid hQ
  have HR := Lib.hid hr
  have HCP : Hid (∀ b ∈ P, (ruC b).length = 3) := Lib.hid (fun b hb => rfl)
  have HCQ : Hid (∀ b ∈ Q, (ruC b).length = 3) := Lib.hid (fun b hb => rfl)
  clear hu hv hP hQ hr
  have HB := Lib.hid (Below.refl w.heap.size w)
  go_enter Try.func40, Try.ntmps40
  by_cases hlen : P.length = Q.length
  · have HLE := Lib.hid hlen
    rw [← hlen] at HV hd1 ⊢
    clear hlen
    have hne : ((P.length : Int) != P.length) = false := by simp
    go_wp2_with fail
    clear hne
    go_loopw [5] (fun i wr => ∃ k : Nat, k ≤ P.length ∧ i = .int .i64 k ∧ Below w.heap.size w wr ∧ P.take k = Q.take k) (fun i _ => P.length - (intOf i).toNat)
    case atStart => exact ⟨0, by omega, rfl, Below.refl _ _, rfl⟩
    case round =>
      obtain ⟨k, hk, rfl, hb, htk⟩ := hrel
      replace HB := Lib.hid hb
      have HTK := Lib.hid htk
      have HU2 := Lib.hid (HU.out.keep HB.out)
      clear hb htk
      have hv2 : SlR wr (.slice y P.length dap) 3 Q.length (Q.flatMap ruC) := SlR.keep HV.out HB.out
      have HV2 := Lib.hid hv2
      clear hv2
      by_cases hlt : k < P.length
      · have hltq : k < Q.length := by have := HLE.out; omega
        obtain ⟨b, o, cap', hve, _, _, _, _⟩ := SlR.pos HU2.out (by decide) (by omega)
        simp only [Value.slice.injEq, true_and] at hve
        obtain ⟨rfl, rfl⟩ := hve
        obtain ⟨b2, o2, cap2, hve, _, _, _, _⟩ := SlR.pos HV2.out (by decide) (by omega)
        simp only [Value.slice.injEq, true_and] at hve
        obtain ⟨rfl, _, rfl⟩ := hve
        have hcu := Lib.hid (flat_at ruC 3 (by decide) HU2.out HCP.out hlt)
        have hcv := Lib.hid (flat_at ruC 3 (by decide) HV2.out HCQ.out hltq)
        obtain ⟨q, hq⟩ : ∃ q, decide (P[k] = Q[k]) = q := ⟨_, rfl⟩
        have HNQ := Lib.hid (run_neq P[k] Q[k] (HP.out _ (List.getElem_mem hlt)) (HQ.out _ (List.getElem_mem hltq)) q hq)
        have HQ2 := Lib.hid hq
        have HST : Hid (q = true → P.take (k + 1) = Q.take (k + 1)) := by
          refine Lib.hid (fun e => ?_)
          rw [e, decide_eq_true_eq] at hq
          rw [List.take_succ_eq_append_getElem hlt, List.take_succ_eq_append_getElem hltq, HTK.out, hq]
        have HNE : Hid (q = false → P ≠ Q) := by
          refine Lib.hid (fun e he => ?_)
          rw [e, decide_eq_false_iff_not] at hq
          exact hq (by subst he; rfl)
        clear hq
        obtain ⟨A, hA⟩ : ∃ A, P[k] = A := ⟨_, rfl⟩
        obtain ⟨B, hB⟩ : ∃ B, Q[k] = B := ⟨_, rfl⟩
        rw [hA] at hcu
        rw [hB] at hcv
        rw [hA, hB] at HNQ HQ2
        clear hA hB
        go_upto_region 6 with (fail)
        refine Agg.chainR 9 (by kernel_rfl) (by kernel_rfl) ?_
        simp only [List.take_succ_cons, List.take_zero, List.drop_succ_cons, List.drop_zero]
        refine Agg.chMove rfl rfl rfl rfl ?_
        refine Agg.chMove rfl rfl rfl rfl ?_
        refine Agg.chIA ti24 (by omega) (by omega) rfl rfl rfl rfl rfl ?_
        refine Agg.chRowAt 3 (ruC A) rfl (by decide +kernel) rfl rfl rfl rfl hcu.out ?_
        refine Agg.chMove rfl rfl rfl rfl ?_
        refine Agg.chMove rfl rfl rfl rfl ?_
        refine Agg.chIA ti24 (by omega) (by omega) rfl rfl rfl rfl rfl ?_
        refine Agg.chRowAt 3 (ruC B) rfl (by decide +kernel) rfl rfl rfl rfl hcv.out ?_
        refine Agg.chBin (v := .bool (!q)) rfl rfl rfl rfl rfl (fun w => flatRun.gd .neq _ _ _ _ w) HNQ.out ?_
        refine Agg.chEnd ?_
        intro vs w1 hb _
        refine Agg.wpNil ?_
        simp only [List.reverse, List.reverseAux, Agg.fill, List.set_cons_succ, List.set_cons_zero]
        replace HB := Lib.hid (HB.out.trans (hb.mono HB.out.size))
        clear hb
        cases q
        · obtain rfl : r = false := by rw [← HR.out]; simpa using HNE.out rfl
          rw [show (!false) = true from rfl]
          go_wp2_with fail
          go_ret
          exact ⟨rfl, HB.out⟩
        · rw [show (!true) = false from rfl]
          go_wp2_with fail
          go_roundw
          case rel => exact ⟨k + 1, by omega, by go_num, HB.out, HST.out rfl⟩
          case measure => simp [intOf]; omega
      · obtain rfl : k = P.length := by omega
        obtain rfl : r = true := by
          rw [← HR.out]
          have := HTK.out
          rw [List.take_length, HLE.out, List.take_length] at this
          simpa using this
        go_wp2_with fail
        go_ret
        exact ⟨rfl, HB.out⟩
  · have hne : ((P.length : Int) != Q.length) = true := by simp; omega
    obtain rfl : r = false := by rw [← HR.out]; simp; intro e; exact hlen (by rw [e])
    clear hlen
    go_wp2_with fail
    go_ret
    exact ⟨rfl, HB.out⟩

theorem timesD_bad {l : List Rn} {k : Nat} (hk : k < l.length) (h : ¬ sized l[k] = true) : timesD l = [] := by
  unfold timesD
  rw [if_neg]
  simp only [Bool.and_eq_true, List.all_eq_true]
  exact fun h2 => h (h2.1 _ (List.getElem_mem hk))
theorem timesD_big {l : List Rn} {k : Nat} (hk : 256 < many (l.take k)) : timesD l = [] := by
  unfold timesD
  rw [if_neg]
  simp only [Bool.and_eq_true, List.all_eq_true, decide_eq_true_eq]
  intro h
  have := many_take_le l k (fun r hr => by have := (sized_iff r).1 (h.1 r hr); omega)
  omega
theorem times_snoc (l : List Rn) (k : Nat) (h : k < l.length) : times (l.take (k + 1)) = times (l.take k) ++ ts l[k] := by
  unfold times
  rw [List.take_succ_eq_append_getElem h, List.flatMap_append]; simp
set_option maxHeartbeats 4000000 in
set_option maxRecDepth 100000 in
theorem rTimes_any (l : List Rn) (v : Value) (w : World) (hl : Rus w v l) (hw : ∀ r ∈ l, Rw r) :
    Calls Try.prog 22 #[v] w fun e w' => ∃ u, e = .returned u ∧ w'.ownsRow w.heap.size 2 1 u (timesD l).length (tC (timesD l)) ∧ Below w.heap.size w w' := by
  obtain ⟨x, cap, rfl, _⟩ := SlR.shape hl
  have HL := Lib.hid hl
  have HL0 := HL
  have HW := Lib.hid hw
  have hln := (Rus.len hl).2
  clear hl hw
  have HB := Lib.hid (Below.refl w.heap.size w)
  go_enter Try.func22, Try.ntmps22
  go_wp2_with fail
  go_loopw [3, 4] (fun out i wr => ∃ k : Nat, k ≤ l.length ∧ i = .int .i64 k ∧ (∀ j, (h : j < l.length) → j < k → sized l[j] = true) ∧ (((times (l.take k)).length : Nat) : Int) = many (l.take k) ∧ (times (l.take k)).length ≤ 256 ∧ Below w.heap.size w wr ∧ wr.ownsRow w.heap.size 2 1 out (times (l.take k)).length (tC (times (l.take k)))) (fun _ i _ => l.length - (intOf i).toNat)
  case atStart => exact ⟨0, by omega, rfl, fun j _ hj => absurd hj (by omega), rfl, by simp [times], HB.out, World.ownsRow_nil _ _ _ _⟩
  case round =>
    obtain ⟨k, hk, rfl, hsz, hmn, hlt6, hb, ho⟩ := hrel
    replace HB := Lib.hid hb
    replace HL := Lib.hid (SlR.keep HL0.out hb)
    have HO := Lib.hid ho
    have HSZ := Lib.hid hsz
    obtain ⟨vx, vc, rfl, _, _⟩ := (ownSl ho).shape
    clear hb ho hsz
    obtain ⟨wA, hwA⟩ : ∃ x, x = wr := ⟨_, rfl⟩
    subst hwA
    by_cases hlt : k < l.length
    · have hsn := many_snoc l k hlt
      have htn := times_snoc l k hlt
      have HWR := Lib.hid (HW.out l[k] (List.getElem_mem hlt))
      have hb1 : ¬ sized l[k] = true → timesD l = [] := timesD_bad hlt
      have hb2 : 256 < many (l.take k) + l[k].2.2 → timesD l = [] := fun h => timesD_big (k := k + 1) (by rw [hsn]; exact h)
      have hsj : sized l[k] = true → ∀ j, (h : j < l.length) → j < k + 1 → sized l[j] = true := fun hs j h hj => by
        rcases Nat.lt_succ_iff_lt_or_eq.1 hj with e | e
        · exact HSZ.out j h e
        · subst e; exact hs
      have HSJ := Lib.hid hsj
      clear hsj
      obtain ⟨b, o, cap', hve, _, _, _, _⟩ := SlR.pos HL.out (by decide) (by omega)
      simp only [Value.slice.injEq, true_and] at hve
      obtain ⟨rfl, rfl⟩ := hve
      have hrow := flat_at ruC 3 (by decide) HL.out (fun b hb => rfl) hlt
      obtain ⟨r, hr⟩ : ∃ r, l[k] = r := ⟨_, rfl⟩
      rw [hr] at hsn htn HWR hb1 hb2 HSJ hrow
      clear hr
      obtain ⟨a, s, c⟩ := r
      obtain ⟨⟨ia1, ia2⟩, ⟨is1, is2⟩, ⟨ic1, ic2⟩⟩ := HWR.out
      simp only at ia1 ia2 is1 is2 ic1 ic2
      obtain ⟨T, hT⟩ : ∃ T, times (l.take k) = T := ⟨_, rfl⟩
      rw [hT] at HO hmn hlt6 htn
      rw [hT]
      clear hT
      obtain ⟨mk, hmk⟩ : ∃ mk : Nat, T.length = mk := ⟨_, rfl⟩
      rw [hmk] at HO hmn hlt6
      rw [hmk]
      have HMK := Lib.hid hmk
      have hb1' : ¬ (1 ≤ c ∧ c ≤ 256 ∧ 0 ≤ a ∧ a ≤ 281474976710656 ∧ 0 ≤ s ∧ s ≤ 281474976710656) → timesD l = [] := fun h => hb1 (fun h2 => h ((sized_iff _).1 h2))
      have hb2' : 256 < (mk : Int) + c → timesD l = [] := fun h => hb2 (by rw [← hmn]; exact h)
      have HB1 := Lib.hid hb1'
      have HB2 := Lib.hid hb2'
      have hsn2 : many (l.take (k + 1)) = (mk : Int) + c := by rw [hsn, hmn]
      have HSN := Lib.hid hsn2
      have HTN := Lib.hid htn
      clear hb1 hb2 hb1' hb2' hsn hsn2 htn hmk hmn
      go_upto_region 6 with (refine Agg.gLoad 3 [.int .i64 a, .int .i64 s, .int .i64 c] rfl rfl rfl (by decide +kernel) rfl hrow ?_; simp only [Act.put, List.setIfInBounds_toArray, List.set_cons_succ, List.set_cons_zero])
      refine Agg.wp_at fun w21 hw21 => ?_
      have hb : Below wA.heap.size wA w21 := by rw [hw21.out]; repeat (first | exact Below.refl _ _ | refine Agg.bel_drew ?_ | refine Agg.bel_alloc ?_ _)
      replace HB := Lib.hid (HB.out.trans (hb.mono HB.out.size))
      replace HL := Lib.hid (HL.out.keep hb)
      replace HO := Lib.hid (HO.out.keep hb)
      clear hb
      have H5 : Hid (Blk w21 wA.heap.size 31 [.int .i64 a, .int .i64 s, .int .i64 c]) := by show Blk _ _ _ _; rw [hw21.out]; exact Blk.new wA 31 #[.int .i64 a, .int .i64 s, .int .i64 c]
      clear hw21 hrow
      generalize wA.heap.size = g5 at *
      have xH5_0 := H5.out.cell 0
      have xH5_1 := H5.out.cell 1
      have xH5_2 := H5.out.cell 2
      have lH5 := H5.out.lt
      simp only [List.getElem?_cons_zero, List.getElem?_cons_succ] at xH5_0 xH5_1 xH5_2
      by_cases q0 : 1 ≤ c
      rotate_left
      · have hz : timesD l = [] := HB1.out (by intro h; omega)
        have HZ := Lib.hid hz
        clear hz
        go_wp2_with fail
        go_ret
        exact ⟨_, rfl, by rw [HZ.out]; exact World.ownsRow_nil _ _ _ _, HB.out⟩
      by_cases q1 : c ≤ 256
      rotate_left
      · have hz : timesD l = [] := HB1.out (by intro h; omega)
        have HZ := Lib.hid hz
        clear hz
        go_wp2_with fail
        go_ret
        exact ⟨_, rfl, by rw [HZ.out]; exact World.ownsRow_nil _ _ _ _, HB.out⟩
      by_cases q2 : (mk : Int) + c ≤ 256
      rotate_left
      · have hz : timesD l = [] := HB2.out (by omega)
        have HZ := Lib.hid hz
        clear hz
        go_wp2_with fail
        go_ret
        exact ⟨_, rfl, by rw [HZ.out]; exact World.ownsRow_nil _ _ _ _, HB.out⟩
      by_cases q3 : 0 ≤ s
      rotate_left
      · have hz : timesD l = [] := HB1.out (by intro h; omega)
        have HZ := Lib.hid hz
        clear hz
        go_wp2_with fail
        go_ret
        exact ⟨_, rfl, by rw [HZ.out]; exact World.ownsRow_nil _ _ _ _, HB.out⟩
      by_cases q4 : s ≤ 281474976710656
      rotate_left
      · have hz : timesD l = [] := HB1.out (by intro h; omega)
        have HZ := Lib.hid hz
        clear hz
        go_wp2_with fail
        go_ret
        exact ⟨_, rfl, by rw [HZ.out]; exact World.ownsRow_nil _ _ _ _, HB.out⟩
      by_cases q5 : 0 ≤ a
      rotate_left
      · have hz : timesD l = [] := HB1.out (by intro h; omega)
        have HZ := Lib.hid hz
        clear hz
        go_wp2_with fail
        go_ret
        exact ⟨_, rfl, by rw [HZ.out]; exact World.ownsRow_nil _ _ _ _, HB.out⟩
      by_cases q6 : a ≤ 281474976710656
      rotate_left
      · have hz : timesD l = [] := HB1.out (by intro h; omega)
        have HZ := Lib.hid hz
        clear hz
        go_wp2_with fail
        go_ret
        exact ⟨_, rfl, by rw [HZ.out]; exact World.ownsRow_nil _ _ _ _, HB.out⟩
      have hs : sized (a, s, c) = true := (sized_iff _).2 ⟨q0, q1, q5, q6, q3, q4⟩
      have HSS := Lib.hid (HSJ.out hs)
      clear hs
      obtain ⟨cn, rfl⟩ : ∃ cn : Nat, c = (cn : Int) := ⟨c.toNat, by omega⟩
      go_wp2_with fail
      clear xH5_0 xH5_1 xH5_2 lH5
      go_loopw [3, 6] (fun out i wr => ∃ q : Nat, q ≤ cn ∧ i = .int .i64 q ∧ Below w.heap.size w wr ∧ Blk wr g5 31 [.int .i64 a, .int .i64 s, .int .i64 (cn : Int)] ∧ wr.ownsRow w.heap.size 2 1 out (mk + q) (tC (T ++ ts (a, s, (q : Int))))) (fun _ i _ => cn - (intOf i).toNat)
      case atStart => exact ⟨0, by omega, rfl, HB.out, H5.out, by rw [show ts (a, s, ((0 : Nat) : Int)) = [] by simp [ts], List.append_nil]; exact HO.out⟩
      case round =>
        obtain ⟨q, hq, rfl, hb, h5, ho⟩ := hrel
        clear HO H5 HB HL
        have HB := Lib.hid hb
        have H5 := Lib.hid h5
        have HO := Lib.hid ho
        obtain ⟨ux, uc, rfl, _, _⟩ := (ownSl ho).shape
        clear hb h5 ho
        obtain ⟨wB, hwB⟩ : ∃ x, x = wr := ⟨_, rfl⟩
        subst hwB
        have HOL := Lib.hid (HO.out.lt)
        have HGO := Lib.hid (own_block HO.out)
        by_cases hqc : q < cn
        · have hp0 : 0 ≤ (q : Int) * s := Int.mul_nonneg (by omega) q3
          have hp1 : (q : Int) * s ≤ 71776119061217280 := by
            have h1 := Int.mul_le_mul (show (q : Int) ≤ 255 by omega) q4 q3 (by omega)
            omega
          have hpc : (q : Int) * s = s * q := Int.mul_comm _ _
          have hz2 : 0 ≤ a + (q : Int) * s ∧ a + (q : Int) * s ≤ 72057594037927936 := by omega
          obtain ⟨hz3, hz4⟩ := hz2
          have hsc : ts (a, s, ((q + 1 : Nat) : Int)) = ts (a, s, (q : Int)) ++ [a + (q : Int) * s] := ts_succ a s q
          have HSC := Lib.hid hsc
          clear hpc hsc
          have hob := own_keep HO.out ((Below.refl _ wB).alloc (Nat.le_refl _) (.cells #[.int .i64 (a + (q : Int) * s)] 2))
          have hsl := sl_new wB #[.int .i64 (a + (q : Int) * s)] 2 1 1 rfl (by decide)
          have hsz := HB.out.size
          have hba := HB.out.trans (((Below.refl _ wB).alloc (Nat.le_refl _) (.cells #[.int .i64 (a + (q : Int) * s)] 2)).mono HB.out.size)
          have h5a := H5.out.keep ((Below.refl _ wB).alloc (Nat.le_refl _) (.cells #[.int .i64 (a + (q : Int) * s)] 2))
          have xH5_0 := H5.out.cell 0
          have xH5_1 := H5.out.cell 1
          have xH5_2 := H5.out.cell 2
          have lH5 := H5.out.lt
          simp only [List.getElem?_cons_zero, List.getElem?_cons_succ] at xH5_0 xH5_1 xH5_2
          go_wp2_with (refine Agg.append ti22 _ _ rfl rfl w.heap.size (v := .slice ux (mk + q) uc) rfl hob rfl hsl (by simp [Value.oneCell']) (by unfold maxLen; omega) (by omega) (by simp only [World.size_alloc]; omega) ?_; intro v2 w3 ho3 hg3 _; simp only [Act.put, List.setIfInBounds_toArray, List.set_cons_succ, List.set_cons_zero])
          have hne := own_apart hob h5a (show 2 ≠ 31 by decide)
          have h53 := blk_row h5a hg3 hne
          have hb3 := hba.trans (grown_below hg3 hba.size HGO.out)
          have ho4 : w3.ownsRow w.heap.size 2 1 v2 (mk + (q + 1)) (tC (T ++ ts (a, s, ((q + 1 : Nat) : Int)))) := by
            rw [HSC.out, ← List.append_assoc]
            have e : tC (T ++ ts (a, s, (q : Int)) ++ [a + (q : Int) * s]) = tC (T ++ ts (a, s, (q : Int))) ++ [Value.int .i64 (a + (q : Int) * s)] := List.map_append
            rw [e]; exact ho3
          exact ⟨⟨q + 1, by omega, by go_num, hb3, h53, ho4⟩, by simp [intOf]; omega⟩
        · obtain rfl : q = cn := by omega
          have xH5_0 := H5.out.cell 0
          have xH5_1 := H5.out.cell 1
          have xH5_2 := H5.out.cell 2
          have lH5 := H5.out.lt
          simp only [List.getElem?_cons_zero, List.getElem?_cons_succ] at xH5_0 xH5_1 xH5_2
          go_wp2_with fail
          have hown : wB.ownsRow w.heap.size 2 1 (.slice ux (mk + q) uc) (times (l.take (k + 1))).length (tC (times (l.take (k + 1)))) := by
            rw [HTN.out, List.length_append, HMK.out, ts_length]
            simpa using HO.out
          have hlen : (((times (l.take (k + 1))).length : Nat) : Int) = many (l.take (k + 1)) := by
            rw [HTN.out, List.length_append, HMK.out, ts_length, HSN.out]; simp
          have hl2 : (times (l.take (k + 1))).length ≤ 256 := by
            have h := HSN.out
            omega
          exact ⟨⟨k + 1, by omega, by go_num, HSS.out, hlen, hl2, HB.out, hown⟩, by simp [intOf]; omega⟩
    · obtain rfl : k = l.length := by omega
      rw [List.take_length] at HO hmn hlt6 ⊢
      have hd : timesD l = times l := by
        unfold timesD
        rw [if_pos]
        simp only [Bool.and_eq_true, List.all_eq_true, decide_eq_true_eq]
        refine ⟨fun r hr => ?_, by omega⟩
        obtain ⟨j, hj, rfl⟩ := List.getElem_of_mem hr
        exact HSZ.out j hj hj
      have HD := Lib.hid hd
      clear hd
      go_wp2_with fail
      go_ret
      exact ⟨_, rfl, by rw [HD.out]; exact HO.out, HB.out⟩
end Go.Proofs.Ytpligbfajnjklaa
