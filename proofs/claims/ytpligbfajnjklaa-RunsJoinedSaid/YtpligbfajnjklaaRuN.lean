/-
  THE WALKS OF LAYER 7 (runs): rows compacted: how many are left.
-/
import Derived.Test.YtpligbfajnjklaaRuL
import Derived.Test.YtpligbfajnjklaaOwn2
section
namespace Agg
open Go Go.RowKit
variable {P : Program} {ops : Array Oper} {rest : List Oper} {o : Oper} {a : Act} {w : World} {Q : Exit → Act → World → Prop} in
/-- a part of a row of one-cell elements is cleared -/
theorem gClear {t e : TypeId} {x : Operand} {z : Value} (ht : P.underlying t = some (.slice e)) (hv : ∀ w, (zeroValue e).run P w = .ok z w) (hz : z.cells = #[z]) (h1 : z.oneCell' = true) (hg : o.guard = none) (ho : o.op = .call { callee := .builtin .clear, args := #[x], argTypes := #[t] })
    {g k n c : Nat} {T : TypeId} {cs : List Value} (hx : a.eval x = .slice (some ⟨g, k, none⟩) n c) (hn : 0 < n) (H : Blk w g T cs) (hf : k + n ≤ cs.length)
    (h : wpList P ops Q rest (a.put o.dst (.tuple #[])) (w.setCells g k (List.replicate n z))) : wpList P ops Q (o :: rest) a w := by
  have hr := Go.Lib.run_clear_slice (P := P) w t e o.type z ht hv hz h1 g k n c hn (fun j hj => by rw [H.cell, List.getElem?_eq_getElem (by omega)]; rfl) (fun j hj => H.frozen _)
  refine run hg _ _ ?_ h
  simp [execOp, ho, resolve, hx, invoke, builtin, hr]
end Agg
namespace Go.Proofs.Ytpligbfajnjklaa
open Go.ChangeShapes Go.WideShapes Go.ChangeAt Go.RowKit Agg Pg Ru

theorem zero_i64 (w : World) : (zeroValue 2).run Try.prog w = .ok (.int .i64 0) w := by rfl
set_option maxHeartbeats 4000000 in
set_option maxRecDepth 100000 in
theorem compact_any (l : List Int) (v : Value) (base : Nat) (w : World) (hbw : base ≤ w.heap.size) (hl : w.ownsRow base 2 1 v l.length (tC l)) (h260 : l.length ≤ 260) :
    Calls Try.prog 29 #[v] w fun e w' => ∃ (x : Option Addr) (m cap : Nat), e = .returned (.slice x m cap) ∧ m ≤ l.length ∧ ((∃ j, Dup l j) → m < l.length) ∧ Below base w w' := by
  obtain ⟨x, cap, rfl, hcap, hcap2⟩ := (ownSl hl).shape
  have HL := Lib.hid hl
  have HL0 := HL
  have HBW := Lib.hid hbw
  have hcap3 : cap ≤ 9223372036854775807 := by unfold maxLen at hcap2; omega
  clear hl hbw hcap2
  have HB := Lib.hid (Below.refl w.heap.size w)
  go_enter Try.func29, Try.ntmps29
  by_cases h2 : l.length < 2
  · have h2b : (l.length : Int) < 2 := by omega
    go_wp2_with fail
    go_ret
    refine ⟨_, _, _, rfl, Nat.le_refl _, fun ⟨j, a, h3, h4⟩ => ?_, HB.out.mono HBW.out⟩
    have := (List.getElem?_eq_some_iff.1 h4).1; omega
  · have h2b : ¬ (l.length : Int) < 2 := by omega
    obtain ⟨g, cap', hve⟩ := ownPos HL.out (by omega)
    simp only [Value.slice.injEq, true_and] at hve
    obtain ⟨rfl, rfl⟩ := hve
    go_wp2_with fail
    go_loopw [3] (fun i wr => ∃ k : Nat, 1 ≤ k ∧ k ≤ l.length ∧ i = .int .i64 k ∧ Below w.heap.size w wr ∧ ∀ j : Nat, j + 1 < k → ¬ Dup l j) (fun i _ => l.length - (intOf i).toNat)
    case atStart => exact ⟨1, by omega, by omega, rfl, HB.out, fun j hj => absurd hj (by omega)⟩
    case round =>
      obtain ⟨k, hk0, hk, rfl, hb, hno⟩ := hrel
      have HNO := Lib.hid hno
      replace HB := Lib.hid hb
      replace HL := Lib.hid (own_keep HL0.out hb)
      clear hb hno
      obtain ⟨wA, hwA⟩ : ∃ x, x = wr := ⟨_, rfl⟩
      subst hwA
      by_cases hlt : k < l.length
      · obtain ⟨i, rfl⟩ : ∃ i : Nat, k = i + 1 := ⟨k - 1, by omega⟩
        have hc1 := tms_at (ownSl HL.out) hlt
        have hc0 := tms_at (ownSl HL.out) (k := i) (by omega)
        have ea : l[i]? = some (l[i]'(by omega)) := List.getElem?_eq_getElem _
        have eb : l[i + 1]? = some (l[i + 1]'hlt) := List.getElem?_eq_getElem _
        obtain ⟨p, hp⟩ : ∃ p, l[i]'(by omega) = p := ⟨_, rfl⟩
        obtain ⟨q, hq⟩ : ∃ p, l[i + 1]'hlt = p := ⟨_, rfl⟩
        rw [hp] at hc0 ea
        rw [hq] at hc1 eb
        have HC1 := Lib.hid hc1
        have HEA := Lib.hid ea
        have HEB := Lib.hid eb
        have HC0 : Hid (wA.cell? ⟨g, 0 + (((i + 1 : Nat) : Int) - 1).toNat * 1, none⟩ = some (.int .i64 p)) := Lib.hid (by rw [show (((i + 1 : Nat) : Int) - 1).toNat * 1 = (i : Int).toNat * 1 by omega]; exact hc0)
        obtain ⟨z, hz⟩ : ∃ z, (q == p) = z := ⟨_, rfl⟩
        have HZ := Lib.hid hz
        clear hc0 hc1 ea eb hp hq hz
        go_upto_region 6 with (fail)
        refine Agg.chainR 10 (by kernel_rfl) (by kernel_rfl) ?_
        simp only [List.take_succ_cons, List.take_zero, List.drop_succ_cons, List.drop_zero]
        refine Agg.chMove rfl rfl rfl rfl ?_
        refine Agg.chMove rfl rfl rfl rfl ?_
        refine Agg.chIA ti22 (by omega) (by omega) rfl rfl rfl rfl rfl ?_
        refine Agg.chLoad rfl rfl rfl rfl (by decide +kernel) HC1.out ?_
        refine Agg.chMove rfl rfl rfl rfl ?_
        refine Agg.chMove rfl rfl rfl rfl ?_
        refine Agg.chAr64 rfl rfl rfl rfl (by omega) (by omega) rfl rfl ?_
        refine Agg.chIA ti22 (by omega) (by omega) rfl rfl rfl rfl rfl ?_
        refine Agg.chLoad rfl rfl rfl rfl (by decide +kernel) HC0.out ?_
        refine Agg.chEq z HZ.out rfl rfl rfl rfl rfl ?_
        refine Agg.chEnd ?_
        intro vs w21 hb _
        refine Agg.wpNil ?_
        simp only [List.reverse, List.reverseAux, Agg.fill, List.set_cons_succ, List.set_cons_zero]
        replace HB := Lib.hid (HB.out.trans (hb.mono HB.out.size))
        replace HL := Lib.hid (HL.out.keep hb)
        clear hb
        clear HC1 HC0
        cases z
        · have hqp : ¬ q = p := by simpa using HZ.out
          go_wp2_with fail
          refine ⟨⟨i + 1 + 1, by omega, by omega, by go_num, HB.out, fun j hj hd => ?_⟩, by simp [intOf]; omega⟩
          by_cases e : j = i
          · subst e
            obtain ⟨a, h1, h2⟩ := hd
            rw [HEA.out] at h1
            rw [HEB.out] at h2
            cases h1; cases h2
            exact hqp rfl
          · exact HNO.out j (by omega) hd
        · clear HEA HEB HZ HNO HL0
          have HBB := Lib.hid (HB.out.mono HBW.out)
          clear HB
          obtain ⟨k0, hk0'⟩ : ∃ k0, i + 1 = k0 := ⟨_, rfl⟩
          rw [hk0'] at hlt hk hk0 ⊢
          clear hk0'
          go_wp2_with fail
          obtain ⟨n2, hn2⟩ : ∃ n2, l.length - k0 = n2 := ⟨_, rfl⟩
          obtain ⟨c2, hc2⟩ : ∃ n2, cap - k0 = n2 := ⟨_, rfl⟩
          rw [hn2, hc2]
          go_loopw [3, 5] (fun s3 s5 wr => ∃ (k k2 : Nat) (xs : List Int), k0 ≤ k ∧ 1 ≤ k2 ∧ k2 ≤ n2 ∧ k + 1 ≤ k0 + k2 ∧ s3 = .int .i64 k ∧ s5 = .int .i64 k2 ∧ xs.length = l.length ∧ wr.ownsRow base 2 1 (.slice (some ⟨g, 0, none⟩) l.length cap) l.length (tC xs) ∧ Below base w wr) (fun _ s5 _ => n2 - (intOf s5).toNat)
          case atStart => exact ⟨k0, 1, l, Nat.le_refl _, Nat.le_refl _, by omega, by omega, rfl, rfl, rfl, HL.out, HBB.out⟩
          case round =>
            obtain ⟨k, k2, xs, q1, q2, q3, q4, rfl, rfl, q5, q6, q7⟩ := hrel
            have HX := Lib.hid q6
            have HBX := Lib.hid q7
            have HXL := Lib.hid q5
            clear q6 q7 q5 HL HBB
            obtain ⟨wD, hwD⟩ : ∃ x, x = wr := ⟨_, rfl⟩
            subst hwD
            have HTX : Hid (Tms wD (.slice (some ⟨g, 0, none⟩) l.length cap) xs) := Lib.hid (by have := ownSl HX.out; show SlR _ _ _ _ _; rw [HXL.out]; exact this)
            by_cases hlt2 : k2 < n2
            · obtain ⟨i2, rfl⟩ : ∃ i : Nat, k2 = i + 1 := ⟨k2 - 1, by omega⟩
              have hc1 := tms_at HTX.out (k := k0 + (i2 + 1)) (by rw [HXL.out]; omega)
              have hc0 := tms_at HTX.out (k := k0 + i2) (by rw [HXL.out]; omega)
              obtain ⟨p', hp⟩ : ∃ p, xs[k0 + i2]'(by rw [HXL.out]; omega) = p := ⟨_, rfl⟩
              obtain ⟨q', hq⟩ : ∃ p, xs[k0 + (i2 + 1)]'(by rw [HXL.out]; omega) = p := ⟨_, rfl⟩
              rw [hp] at hc0
              rw [hq] at hc1
              have HC1 : Hid (wD.cell? ⟨g, k0 + ((i2 + 1 : Nat) : Int).toNat * 1, none⟩ = some (.int .i64 q')) := Lib.hid (by rw [show k0 + ((i2 + 1 : Nat) : Int).toNat * 1 = 0 + ((k0 + (i2 + 1) : Nat) : Int).toNat * 1 by omega]; exact hc1)
              have HC0 : Hid (wD.cell? ⟨g, k0 + (((i2 + 1 : Nat) : Int) - 1).toNat * 1, none⟩ = some (.int .i64 p')) := Lib.hid (by rw [show k0 + (((i2 + 1 : Nat) : Int) - 1).toNat * 1 = 0 + ((k0 + i2 : Nat) : Int).toNat * 1 by omega]; exact hc0)
              obtain ⟨z, hz⟩ : ∃ z, (q' != p') = z := ⟨_, rfl⟩
              have HZ := Lib.hid hz
              clear hc0 hc1 hp hq hz HTX
              go_upto_region 11 with (fail)
              refine Agg.chainR 10 (by kernel_rfl) (by kernel_rfl) ?_
              simp only [List.take_succ_cons, List.take_zero, List.drop_succ_cons, List.drop_zero]
              refine Agg.chMove rfl rfl rfl rfl ?_
              refine Agg.chMove rfl rfl rfl rfl ?_
              refine Agg.chIA ti22 (by omega) (by omega) rfl rfl rfl rfl rfl ?_
              refine Agg.chLoad rfl rfl rfl rfl (by decide +kernel) HC1.out ?_
              refine Agg.chMove rfl rfl rfl rfl ?_
              refine Agg.chMove rfl rfl rfl rfl ?_
              refine Agg.chAr64 rfl rfl rfl rfl (by omega) (by omega) rfl rfl ?_
              refine Agg.chIA ti22 (by omega) (by omega) rfl rfl rfl rfl rfl ?_
              refine Agg.chLoad rfl rfl rfl rfl (by decide +kernel) HC0.out ?_
              refine Agg.chNe z HZ.out rfl rfl rfl rfl rfl ?_
              refine Agg.chEnd ?_
              intro vs w41 hb hf
              simp only [List.reverse, List.reverseAux, Agg.Facts] at hf
              obtain _ := hf
              simp only [List.reverse, List.reverseAux, Agg.fill, List.set_cons_succ, List.set_cons_zero]
              refine Agg.noP ?_
              have hx3 := own_keep HX.out hb
              have hc3 := cell_keep hb HC1.out
              have hb3 := HBX.out.trans (hb.mono (Nat.le_trans HBW.out HBX.out.size))
              have HX3 := Lib.hid hx3
              have HB3 := Lib.hid hb3
              clear hb hb3 HC1 HC0 HX HBX
              cases z
              · clear hc3 hx3
                go_wp2_with fail
                exact ⟨⟨k, i2 + 1 + 1, xs, q1, by omega, by omega, by omega, rfl, by go_num, HXL.out, HX3.out, HB3.out⟩, by simp [intOf]; omega⟩
              · rw [Int.toNat_natCast, Nat.mul_one] at hc3
                go_wp2_with (refine Agg.gStoreOwn k (.int .i64 q') hx3 (by omega) rfl rfl rfl rfl rfl (by kernel_rfl) rfl rfl (fun w9 hb9 hg9 => ?_))
                rw [tC_set] at hb9
                exact ⟨⟨k + 1, i2 + 1 + 1, xs.set k q', by omega, by omega, by omega, by omega, by go_num, by go_num, by rw [List.length_set]; exact HXL.out, hb9, HB3.out.trans (grown_below hg9 (Nat.le_trans HBW.out HB3.out.size) (own_block HX3.out))⟩, by simp [intOf]; omega⟩
            · obtain rfl : k2 = n2 := by omega
              obtain ⟨r, hbk, hbg, hcc, _, hlen⟩ := ownBlk HX.out
              have hbl : k + (l.length - k) ≤ (tC xs ++ r).length := by rw [hlen]; omega
              have HG := Lib.hid hbg
              clear HX hlen
              go_wp2_with (refine Agg.gClear (k := k) (n := l.length - k) (c := cap - k) (by kernel_rfl) zero_i64 rfl rfl rfl rfl rfl (by omega) hbk hbl ?_)
              go_ret
              exact ⟨_, _, _, rfl, by omega, fun _ => by omega, bel_setCells HG.out _ _ HBX.out⟩
      · obtain rfl : k = l.length := by omega
        have HX : Hid (¬ ∃ j, Dup l j) := Lib.hid (fun ⟨j, h⟩ => HNO.out j (by obtain ⟨a, _, h2⟩ := h; have := (List.getElem?_eq_some_iff.1 h2).1; omega) h)
        clear HNO
        go_wp2_with fail
        go_ret
        exact ⟨_, _, _, rfl, Nat.le_refl _, fun h => absurd h HX.out, HB.out.mono HBW.out⟩
end Go.Proofs.Ytpligbfajnjklaa
end
section
/-
  THE WALK OF LAYER 7's STATEMENT RunsBack.
-/
namespace Go.Proofs.Ytpligbfajnjklaa
open Go.ChangeShapes Go.WideShapes Go.ChangeAt Go.RowKit Agg Pg Ru
theorem find_self {l : List Rn} (h : risesB l = true) {k : Nat} (hk : k < (times l).length) : findP l ((times l)[k]) = ((k : Int), true) := by
  have hup := (times_up l ((rises_iff l).1 h).2.2.1).1.2
  have hn : nBelow ((times l)[k]) (times l) = k := by
    have h1 := below_idx ((times l)[k]) (times l) hup k hk
    by_cases h0 : k = 0
    · omega
    · have h2 := below_idx ((times l)[k]) (times l) hup (k - 1) (by omega)
      have h3 := (List.pairwise_iff_getElem.1 hup) (k - 1) k (by omega) hk (by omega)
      omega
  rw [findP, if_neg (by rw [h]; decide), hn, if_pos (List.getElem?_eq_getElem hk)]
theorem at_self {l : List Rn} (h : risesB l = true) {k : Nat} (hk : k < (times l).length) : atP l (k : Int) = ((times l)[k], 0) := by
  rw [atP, if_neg (by rw [h]; decide), if_neg (by omega), Int.toNat_natCast, List.getElem?_eq_getElem hk]

set_option maxHeartbeats 4000000 in
set_option maxRecDepth 100000 in
theorem back_walk (l : List Int) (v : Value) (w : World) (hl : Tms w v l) (hi : ∀ z ∈ l, I64 z) :
    Calls Try.prog 8 #[v] w fun e w' => e = .returned (.bool true) ∧ Below w.heap.size w w' := by
  obtain ⟨x, cap, rfl, hc, hm⟩ := SlR.shape hl
  have hc3 : cap ≤ 9223372036854775807 := by unfold maxLen at hm; omega
  have HL := Lib.hid hl
  have HI := Lib.hid hi
  clear hl hi hm
  have HB := Lib.hid (Below.refl w.heap.size w)
  go_enter Try.func8, Try.ntmps8
  go_wp2_with fail
  refine (wakes_any w).mono ?_
  rintro e w1 ⟨rfl, hb⟩
  replace HB := Lib.hid (HB.out.trans (hb.mono HB.out.size))
  replace HL := Lib.hid (HL.out.keep hb)
  clear hb
  obtain ⟨m, hmd⟩ : ∃ m, m = min l.length 260 := ⟨_, rfl⟩
  have hm1 : m ≤ l.length := by omega
  have hm2 : m ≤ 260 := by omega
  have hme : min (l.length : Int) 260 = (m : Int) := by omega
  clear hmd
  have hs0 := tms_take HL.out m hm1
  have hle : (l.take m).length = m := by rw [List.length_take]; omega
  have HI2 : Hid (∀ z ∈ l.take m, I64 z) := Lib.hid (fun z hz => HI.out z (List.mem_of_mem_take hz))
  generalize l.take m = T at *
  have hmc : (m : Int) ≤ cap := by omega
  have hs := Lib.hid (SlR.keep hs0 ((Below.refl w1.heap.size w1).alloc (Nat.le_refl _) (.cells #[] 2)))
  have hown := Lib.hid (World.ownsRow_lit (e := 2) (size := 1) (base := w1.heap.size) w1 #[] 0 (Nat.le_refl _) (by decide) rfl)
  have HLE := Lib.hid hle
  clear hs0 hle
  have hs2 : SlR (w1.alloc (.cells #[] 2)) (.slice x m cap) 1 m (tC T) := by have h := hs.out; rw [HLE.out] at h; exact h
  clear hs
  have hb0 := HB.out.trans ((((Below.refl w1.heap.size w1).alloc (Nat.le_refl _) (.cells #[] 2))).mono HB.out.size)
  go_upto_region 4 with (first
    | (refine Agg.min2 _ _ _ (m : Int) rfl rfl rfl rfl hme ?_; simp only [Act.put, List.setIfInBounds_toArray, List.set_cons_succ, List.set_cons_zero])
    | (refine Agg.append ti22 _ _ rfl rfl w1.heap.size (v := .slice (some ⟨w1.heap.size, 0, none⟩) 0 0) rfl hown.out rfl hs2 (tC_one T) (by unfold maxLen; omega) (by omega) (by simp) ?_; intro v2 w3 ho hg hnil; simp only [Act.put, List.setIfInBounds_toArray, List.set_cons_succ, List.set_cons_zero]))
  have ho2 : w3.ownsRow w1.heap.size 2 1 v2 m (tC T) := by simpa using ho
  obtain ⟨vx, vc, rfl, _, _⟩ := (ownSl ho2).shape
  have hT3 : Tms w3 (.slice vx m vc) T := by
    have h := ownSl ho2
    show SlR _ _ _ _ _
    rw [HLE.out]; exact h
  have hbf : Below w1.heap.size w1 w3 := (((Below.refl w1.heap.size w1).alloc (Nat.le_refl _) (.cells #[] 2))).trans (grown_below hg (by simp) (fun j hj => by cases hj; exact Nat.le_refl _))
  replace HB := Lib.hid (HB.out.trans (hbf.mono HB.out.size))
  clear HL hown hs2 hb0 ho hg hnil ho2 hbf HI
  have HT := Lib.hid hT3
  clear hT3
  obtain ⟨rb, hrb⟩ : ∃ b, risingB T = b := ⟨_, rfl⟩
  have HRB := Lib.hid hrb
  clear hrb
  have hmv : (m : Int) ≤ vc := by obtain ⟨_, _, e, h1, h2⟩ := SlR.shape HT.out; cases e; rw [HLE.out] at h1; omega
  obtain rfl : T.length = m := HLE.out
  clear hme hmc
  cases rb
  · go_wp2_with fail
    refine (of_no T _ w3 HT.out HRB.out).mono ?_
    rintro e w21 ⟨rfl, hb⟩
    replace HB := Lib.hid (HB.out.trans (hb.mono HB.out.size))
    replace HT := Lib.hid (HT.out.keep hb)
    clear hb
    by_cases c1 : T.length = 0
    · have c1b : ((T.length : Int) == 0) = true := by simp [c1]
      clear c1
      go_wp2_with fail
      go_ret
      exact ⟨rfl, HB.out⟩
    · have c1b : ((T.length : Int) == 0) = false := by simpa using c1
      by_cases c2 : T.length > 256
      · have c2b : (T.length : Int) > 256 := by omega
        go_wp2_with fail
        go_ret
        exact ⟨rfl, HB.out⟩
      · have c2b : ¬ (T.length : Int) > 256 := by omega
        obtain ⟨b, o, cap', hve, _, _, _, _⟩ := SlR.pos HT.out (by decide) (by omega)
        simp only [Value.slice.injEq, true_and] at hve
        obtain ⟨rfl, rfl⟩ := hve
        have hc1 := tms_at HT.out (k := 0) (by omega)
        have hcn := tms_at HT.out (k := T.length - 1) (by omega)
        have HDUP := Lib.hid (fun (h3 : 0 ≤ T[0]'(by omega)) (h4 : T[T.length - 1]'(by omega) ≤ maxT) hs => dup_of HRB.out (by omega) (by omega) h3 h4 hs)
        obtain ⟨t0, ht0⟩ : ∃ t, T[0]'(by omega) = t := ⟨_, rfl⟩
        obtain ⟨tn, htn⟩ : ∃ t, T[T.length - 1]'(by omega) = t := ⟨_, rfl⟩
        rw [ht0] at hc1 HDUP
        rw [htn] at hcn HDUP
        have HC1 := Lib.hid hc1
        have HCN := Lib.hid hcn
        clear ht0 htn hc1 hcn
        have hc0 : w21.cell? ⟨b, o, none⟩ = some (.int .i64 t0) := HC1.out
        have hcn : w21.cell? ⟨b, o + (T.length - 1), none⟩ = some (.int .i64 tn) := by have h := HCN.out; rw [Nat.mul_one, Int.toNat_natCast] at h; exact h
        by_cases c3 : t0 < 0
        · go_wp2_with fail
          go_ret
          exact ⟨rfl, HB.out⟩
        · by_cases c4 : tn > 281474976710656
          · go_wp2_with fail
            go_ret
            exact ⟨rfl, HB.out⟩
          · obtain ⟨qs, hqs⟩ : ∃ qs : Bool, qs = true ↔ ∀ j, ¬ Desc T j := by
              by_cases h : ∀ j, ¬ Desc T j
              · exact ⟨true, by simpa using h⟩
              · exact ⟨false, by simpa using h⟩
            have HD2 := Lib.hid (fun hs => HDUP.out (by omega) (by unfold maxT; omega) hs)
            have HQS := Lib.hid hqs
            clear hqs
            go_wp2_with fail
            clear hc0 hcn
            refine (sorted_any T _ w21 HT.out qs HQS.out).mono ?_
            rintro e w22 ⟨rfl, hb⟩
            replace HB := Lib.hid (HB.out.trans (hb.mono HB.out.size))
            replace HT := Lib.hid (HT.out.keep hb)
            clear hb
            cases qs
            · go_wp2_with fail
              go_ret
              exact ⟨rfl, HB.out⟩
            · go_wp2_with fail
              refine (cloneT_any T _ w22 HT.out (by omega)).mono ?_
              rintro e wC ⟨u, rfl, hu, hbC⟩
              have HBC := Lib.hid (HB.out.trans (hbC.mono HB.out.size))
              obtain ⟨ux, uc, rfl, _, _⟩ := (ownSl hu).shape
              have HUC := Lib.hid hu
              have HSC := Lib.hid hbC.size
              have HBX := Lib.hid hbC
              clear hu hbC
              go_wp2_with fail
              refine (compact_any T _ w22.heap.size wC HSC.out HUC.out (by omega)).mono ?_
              rintro e wD ⟨x9, m9, c9, rfl, hm9, hm10, hbD⟩
              have hlt9 := hm10 (HD2.out (HQS.out.1 trivial))
              have HBD := Lib.hid (HB.out.trans ((HBX.out.trans hbD).mono HB.out.size))
              have hlt10 : (m9 : Int) < T.length := by omega
              clear hm10 hbD hm9 hlt9
              go_wp2_with fail
              go_ret
              exact ⟨rfl, HBD.out⟩
  · have HRI := Lib.hid (rises_of HRB.out)
    have HRW := Lib.hid (ofR_rw HRB.out)
    go_wp2_with fail
    refine (of_yes T _ w3 HT.out HRB.out).mono ?_
    rintro e w23 ⟨u, rfl, hu, hb⟩
    replace HB := Lib.hid (HB.out.trans (hb.mono HB.out.size))
    replace HT := Lib.hid (HT.out.keep hb)
    clear hb
    have HU := Lib.hid (own_rus hu)
    obtain ⟨ux, uc, rfl, _, _⟩ := SlR.shape HU.out
    clear hu
    have HTO := Lib.hid (times_of T)
    have HML := Lib.hid (times_len HRI.out)
    obtain ⟨L, hL⟩ : ∃ L, ofR T = L := ⟨_, rfl⟩
    rw [hL] at HRI HRW HU HTO HML
    rw [hL]
    clear hL
    have HTI := Lib.hid (fun W hW => times_any L (.slice ux L.length uc) W hW HRW.out)
    have HCH := Lib.hid (fun W hW => check_any L (.slice ux L.length uc) W hW HRW.out)
    have HCO := Lib.hid (fun W hW => count_any L (.slice ux L.length uc) W hW HRW.out)
    have HFI := Lib.hid (fun t W ht hW => find_any L (.slice ux L.length uc) t W ht hW HRW.out)
    have HAT := Lib.hid (fun i W hi hW => at_any L (.slice ux L.length uc) i W hi hW HRW.out)
    have HFS := Lib.hid (fun k hk => find_self (k := k) HRI.out hk)
    have HAS := Lib.hid (fun k hk => at_self (k := k) HRI.out hk)
    rw [HRI.out] at HTI HCH HCO
    have hml := HML.out
    rw [HTO.out] at hml HTI HFS HAS
    rw [← hml.1] at HCO
    clear HML HTO hml
    go_wp2_with fail
    refine (HTI.out w23 HU.out).mono ?_
    rintro e wT ⟨tv, rfl, ht, hbT⟩
    have hb := hbT
    replace HB := Lib.hid (HB.out.trans (hb.mono HB.out.size))
    replace HT := Lib.hid (HT.out.keep hb)
    replace HU := Lib.hid (HU.out.keep hb)
    clear hb
    clear hbT
    have HTV := Lib.hid (own_tms ht)
    obtain ⟨tx, tc, rfl, _, _⟩ := SlR.shape HTV.out
    clear ht
    go_wp2_with fail
    refine (eqT_any T T _ _ wT HTV.out HT.out HI2.out HI2.out true (by simp)).mono ?_
    rintro e w24 ⟨rfl, hb⟩
    replace HB := Lib.hid (HB.out.trans (hb.mono HB.out.size))
    replace HT := Lib.hid (HT.out.keep hb)
    replace HU := Lib.hid (HU.out.keep hb)
    replace HTV := Lib.hid (HTV.out.keep hb)
    clear hb
    go_wp2_with fail
    refine (HCH.out w24 HU.out).mono ?_
    rintro e w25 ⟨rfl, hb⟩
    replace HB := Lib.hid (HB.out.trans (hb.mono HB.out.size))
    replace HT := Lib.hid (HT.out.keep hb)
    replace HU := Lib.hid (HU.out.keep hb)
    replace HTV := Lib.hid (HTV.out.keep hb)
    clear hb
    go_wp2_with fail
    refine (HCO.out w25 HU.out).mono ?_
    rintro e w26 ⟨rfl, hb⟩
    replace HB := Lib.hid (HB.out.trans (hb.mono HB.out.size))
    replace HT := Lib.hid (HT.out.keep hb)
    replace HU := Lib.hid (HU.out.keep hb)
    replace HTV := Lib.hid (HTV.out.keep hb)
    clear hb
    clear HTI HCH HCO HTV
    have HBK := HB
    go_wp2_with fail
    go_loopw [98] (fun i wr => ∃ k : Nat, k ≤ T.length ∧ i = .int .i64 k ∧ Below w26.heap.size w26 wr) (fun i _ => T.length - (intOf i).toNat)
    case atStart => exact ⟨0, by omega, rfl, Below.refl _ _⟩
    case round =>
      obtain ⟨k, hk, rfl, hb⟩ := hrel
      have HFW : Hid (From w26 wr) := Lib.hid hb
      have hb := hb
      replace HB := Lib.hid (HB.out.trans (hb.mono HB.out.size))
      replace HT := Lib.hid (HT.out.keep hb)
      replace HU := Lib.hid (HU.out.keep hb)
      clear hb
      clear hb
      obtain ⟨wA, hwA⟩ : ∃ x, x = wr := ⟨_, rfl⟩
      subst hwA
      by_cases hlt : k < T.length
      · obtain ⟨b, o, cap', hve, _, _, _, _⟩ := SlR.pos HT.out (by decide) (by omega)
        simp only [Value.slice.injEq, true_and] at hve
        obtain ⟨rfl, rfl⟩ := hve
        have hc0 := tms_at HT.out hlt
        rw [Int.toNat_natCast, Nat.mul_one] at hc0
        have hfs := HFS.out k hlt
        have has := HAS.out k hlt
        have hi64 := HI2.out _ (List.getElem_mem hlt)
        obtain ⟨t, ht⟩ : ∃ t, T[k]'hlt = t := ⟨_, rfl⟩
        rw [ht] at hc0 hfs has hi64
        have HF1 := Lib.hid hfs
        have HA1 := Lib.hid has
        have HI1 := Lib.hid hi64
        clear hfs has hi64 ht
        go_upto_region 13 with (fail)
        clear hc0
        go_wp2_with fail
        refine (HFI.out t wA HI1.out HU.out).mono ?_
        rintro e w51 ⟨rfl, hb⟩
        replace HB := Lib.hid (HB.out.trans (hb.mono HB.out.size))
        replace HT := Lib.hid (HT.out.keep hb)
        replace HU := Lib.hid (HU.out.keep hb)
        replace HFW := Lib.hid (HFW.out.keep hb)
        clear hb
        rw [HF1.out]
        go_wp2_with fail
        refine (HAT.out (k : Int) w51 (by unfold I64; omega) HU.out).mono ?_
        rintro e w52 ⟨rfl, hb⟩
        replace HB := Lib.hid (HB.out.trans (hb.mono HB.out.size))
        replace HT := Lib.hid (HT.out.keep hb)
        replace HU := Lib.hid (HU.out.keep hb)
        replace HFW := Lib.hid (HFW.out.keep hb)
        clear hb
        rw [HA1.out]
        clear HF1 HA1 HI1
        have htt : (t != t) = false := by simp
        have hkk : ((k : Int) != (k : Int)) = false := by simp
        go_wp2_with fail
        exact ⟨⟨k + 1, by omega, by go_num, HFW.out⟩, by simp [intOf]; omega⟩
      · obtain rfl : k = T.length := by omega
        go_wp2_with fail
        go_ret
        exact ⟨rfl, HB.out⟩
theorem RunsBack_walk (v : Value) (f : Nat) (w : World) (h : Agg.Good Try.prog w f 22 [v]) :
    Calls Try.prog 8 #[v] w fun e w' => e = .returned (.bool true) ∧ Below w.heap.size w w' := by
  obtain ⟨l, h1, h2⟩ := good_times h
  exact back_walk l v w h1 h2
end Go.Proofs.Ytpligbfajnjklaa
end
