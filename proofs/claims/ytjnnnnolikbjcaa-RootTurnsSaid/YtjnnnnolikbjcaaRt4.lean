/-
  ROOTS: Check.
-/
import Derived.Test.YtjnnnnolikbjcaaRt1
section
namespace Go.Proofs.Ytjnnnnolikbjcaa
open Go.ChangeShapes Go.WideShapes Go.ChangeAt Go.RowKit Agg Pg Dv
attribute [local go_sem] Oper.semAt_some

theorem aiMet : AI Try.prog 81 4 256 1 := ⟨by kernel_rfl, by kernel_rfl⟩
/-- which pages were met -/
def metC (S : List Int) : List Value := (List.range 256).map fun (p : Nat) => .bool (S.contains (p : Int))
theorem metC_len (S : List Int) : (metC S).length = 256 := by simp [metC]
theorem metC_at (S : List Int) (p : Nat) (h : p < 256) : (metC S)[p]? = some (.bool (S.contains (p : Int))) := by
  unfold metC
  rw [List.getElem?_map, List.getElem?_range h]; rfl
theorem metC_set (S : List Int) (p : Nat) (h : p < 256) : (metC S).set p (.bool true) = metC (S ++ [(p : Int)]) := by
  refine List.ext_getElem? fun k => ?_
  by_cases hk : k < 256
  · rw [List.getElem?_set, metC_len, if_pos h, metC_at _ _ hk, metC_at _ _ hk]
    split
    · rename_i e; subst e; simp
    · rename_i e
      rw [List.contains_eq_any_beq, List.contains_eq_any_beq, List.any_append]
      have : ((k : Int) == (p : Int)) = false := by simp; omega
      simp [this]
  · rw [List.getElem?_eq_none (by rw [List.length_set, metC_len]; omega), List.getElem?_eq_none (by rw [metC_len]; omega)]
def firstB (r : Rt) : Bool := (decide (r.slot = 0) || decide (r.slot = 1)) && decide (1 ≤ r.stamp) && decide (r.stamp ≤ 4611686018427387904) && decide (1 ≤ r.pages.length) && decide (r.pages.length ≤ 57) && decide (120 * ((r.pages.length : Int) - 1) < r.bytes) && decide (r.bytes ≤ 120 * (r.pages.length : Int))
theorem right_first (r : Rt) : rightB r = (firstB r && pagesB r.pages r.pages.length) := rfl

set_option maxHeartbeats 8000000 in
set_option maxRecDepth 100000 in
theorem rtCheck_any (r : Rt) (v : Value) (w : World) (hv : RtR w v r) (hw : RtW r) :
    Calls Try.prog 15 #[v] w fun e w' => e = .returned (.int .i64 (if rightB r then 0 else 330)) ∧ Below w.heap.size w w' := by
  obtain ⟨sl, rfl, hs⟩ := hv.ex
  obtain ⟨x, c, rfl, hc1, hc2⟩ := ints_shape hs
  rw [right_first]
  obtain ⟨ec, hec⟩ : ∃ e : Int, (if (firstB r && pagesB r.pages r.pages.length) = true then (0 : Int) else 330) = e := ⟨_, rfl⟩
  rw [hec]
  obtain ⟨q, hq⟩ : ∃ q, firstB r = q := ⟨_, rfl⟩
  rw [hq] at hec
  have HF := Lib.hid hq
  have HE := Lib.hid hec
  clear hec
  have HS := Lib.hid hs
  have HW := Lib.hid hw
  have hs1 := hw.s1
  have hs2 := hw.s2
  have hst := hw.st
  have hb1 := hw.b1
  have hb2 := hw.b2
  have hn0 := hw.n
  obtain ⟨s, st, L, by'⟩ := r
  dsimp only at HF HE HS HW hs1 hs2 hst hb1 hb2 hn0 ⊢
  clear hq hs hv hw hc1 hc2
  unfold rtV
  dsimp only
  obtain ⟨n, hn⟩ : ∃ n, L.length = n := ⟨_, rfl⟩
  have HN := Lib.hid hn
  rw [hn] at hn0 HS HE
  rw [hn]
  clear hn
  have HS0 := HS
  have HB := Lib.hid (Below.refl w.heap.size w)
  go_enter Try.func15, Try.ntmps15
  go_upto_region 2 with (fail)
  refine Agg.wp_at fun w1 hw1 => ?_
  have hb : Below w.heap.size w w1 := by rw [hw1.out]; repeat (first | exact Below.refl _ _ | refine Agg.bel_drew ?_ | refine Agg.bel_alloc ?_ _)
  replace HB := Lib.hid (HB.out.trans (hb.mono HB.out.size))
  replace HS := Lib.hid (HS.out.keep hb)
  clear hb
  have H1 : Hid (Blk w1 w.heap.size 26 [.int .i64 s, .int .u64 (st : Int), .slice x n c, .int .i64 by']) := by show Blk _ _ _ _; rw [hw1.out]; exact Blk.new w 26 #[.int .i64 s, .int .u64 (st : Int), .slice x n c, .int .i64 by']
  clear hw1
  obtain ⟨wZ, hwZ⟩ : ∃ x, x = w1 := ⟨_, rfl⟩
  subst hwZ
  have HBZ := HB
  have HSZ := HS
  have H1Z := H1
  clear HB HS H1
  go_cut [50] from 10 to 50 (fun s' wx => s' = .bool (!q) ∧ Below wZ.heap.size wZ wx)
  case first =>
    have HB := Lib.hid (Below.refl wZ.heap.size wZ)
    have hq2 := HF.out
    unfold firstB at hq2
    dsimp only at hq2
    rw [HN.out] at hq2
    have HQ : Hid (∀ b : Bool, (b = true ↔ ((s = 0 ∨ s = 1) ∧ 1 ≤ st ∧ st ≤ 4611686018427387904 ∧ 1 ≤ n ∧ n ≤ 57 ∧ 120 * ((n : Int) - 1) < by' ∧ by' ≤ 120 * (n : Int))) → b = q) := Lib.hid (fun b hb => by
      rw [← hq2, Bool.eq_iff_iff, hb]
      simp only [Bool.and_eq_true, Bool.or_eq_true, decide_eq_true_eq, and_assoc])
    clear hq2
    have c0 := H1Z.out.cell 0
    have c1 := H1Z.out.cell 1
    have c2 := H1Z.out.cell 2
    have c3 := H1Z.out.cell 3
    simp only [List.getElem?_cons_zero, List.getElem?_cons_succ] at c0 c1 c2 c3
    by_cases k1 : s < 0
    · obtain rfl := HQ.out false (by simp; omega)
      go_wp2_with fail
      go_meet
      exact ⟨rfl, HB.out⟩
    · by_cases k2 : s > 1
      · obtain rfl := HQ.out false (by simp; omega)
        go_wp2_with fail
        go_meet
        exact ⟨rfl, HB.out⟩
      · by_cases k3 : st < 1
        · obtain rfl := HQ.out false (by simp; omega)
          go_wp2_with fail
          go_meet
          exact ⟨rfl, HB.out⟩
        · by_cases k4 : 4611686018427387904 < st
          · obtain rfl := HQ.out false (by simp; omega)
            go_wp2_with fail
            go_meet
            exact ⟨rfl, HB.out⟩
          · by_cases k5 : n < 1
            · obtain rfl := HQ.out false (by simp; omega)
              go_wp2_with fail
              go_meet
              exact ⟨rfl, HB.out⟩
            · by_cases k6 : 57 < n
              · obtain rfl := HQ.out false (by simp; omega)
                go_wp2_with fail
                go_meet
                exact ⟨rfl, HB.out⟩
              · by_cases k7 : by' ≤ 120 * ((n : Int) - 1)
                · obtain rfl := HQ.out false (by simp; omega)
                  go_wp2_with fail
                  go_meet
                  exact ⟨rfl, HB.out⟩
                · by_cases k8 : by' > 120 * (n : Int)
                  · obtain rfl := HQ.out false (by simp; omega)
                    go_wp2_with fail
                    go_meet
                    exact ⟨rfl, HB.out⟩
                  · obtain rfl := HQ.out true (by simp; omega)
                    go_wp2_with fail
                    go_meet
                    exact ⟨by rw [decide_eq_false (show ¬ (st : Int) < 1 by omega), decide_eq_false (show ¬ (4611686018427387904 : Int) < st by omega), decide_eq_false (show ¬ (n : Int) < 1 by omega), decide_eq_false (show ¬ (57 : Int) < n by omega)]; rfl, HB.out⟩
  case rest =>
    obtain ⟨rfl, hbc⟩ := hcut
    have HB := Lib.hid (HBZ.out.trans (hbc.mono HBZ.out.size))
    have HS := Lib.hid (SlR.keep HSZ.out hbc)
    have H1 := Lib.hid (H1Z.out.keep hbc)
    clear hbc HBZ HSZ H1Z
    cases q
    · obtain rfl : ec = 330 := by rw [← HE.out]; rfl
      go_wp2_with fail
      go_ret
      exact ⟨rfl, HB.out⟩
    · have hsz := HB.out.size
      go_upto_region 5 with (refine Agg.allocRow 81 (metC []).toArray rfl rfl (by kernel_rfl) ?_; simp only [Act.put, List.setIfInBounds_toArray, List.set_cons_succ, List.set_cons_zero])
      refine Agg.wp_at fun w61 hw61 => ?_
      have hb : Below wc.heap.size wc w61 := by rw [hw61.out]; repeat (first | exact Below.refl _ _ | refine Agg.bel_drew ?_ | refine Agg.bel_alloc ?_ _)
      replace HB := Lib.hid (HB.out.trans (hb.mono HB.out.size))
      replace HS := Lib.hid (HS.out.keep hb)
      replace H1 := Lib.hid (H1.out.keep hb)
      clear hb
      have H4 : Hid (Blk w61 wc.heap.size 81 (metC [])) := by show Blk _ _ _ _; rw [hw61.out]; exact Blk.new wc 81 (metC []).toArray
      clear hw61
      generalize wc.heap.size = g4 at *
      have c2 := H1.out.cell 2
      simp only [List.getElem?_cons_zero, List.getElem?_cons_succ] at c2
      go_wp2_with fail
      clear c2
      have H4Z := H4
      have HBZ := HB
      clear HB H4 HS H1
      go_loopw [54] (fun ix wr => ∃ k : Nat, k ≤ n ∧ ix = .int .i64 k ∧ pagesB L k = true ∧ Blk wr g4 81 (metC (L.take k)) ∧ Below w.heap.size w wr) (fun ix _ => n - (intOf ix).toNat)
      case atStart => exact ⟨0, by omega, rfl, rfl, H4Z.out, HBZ.out⟩
      case round =>
        obtain ⟨k, hk, rfl, hp, hm, hb⟩ := hrel
        have HP := Lib.hid hp
        have HM := Lib.hid hm
        have HB := Lib.hid hb
        have hsr := SlR.keep HS0.out hb
        clear hp hm hb
        obtain ⟨wA, hwA⟩ : ∃ x, x = wr := ⟨_, rfl⟩
        subst hwA
        by_cases hlt : k < n
        · obtain ⟨b, o, cap', hve, _⟩ := SlR.pos hsr (by decide) (by rw [HN.out]; omega)
          injection hve with q1 q2 q3
          subst q1
          clear q2 q3
          have hkL : k < L.length := by rw [HN.out]; exact hlt
          have hcell := ints_at (l := L) hsr hkL
          have hgd : L.getD k 0 = L[k] := by rw [List.getD_eq_getElem?_getD, List.getElem?_eq_getElem hkL]; rfl
          have hsu := pagesB_succ L k
          have htk := List.take_succ_eq_append_getElem hkL
          obtain ⟨z, hz⟩ : ∃ y, L[k] = y := ⟨_, rfl⟩
          rw [hgd, hz, HP.out] at hsu
          rw [hz] at hcell htk
          have HSU := Lib.hid hsu
          have HTK := Lib.hid htk
          clear hsu htk hgd hz hsr
          by_cases k1 : z < 18
          · have hf : pagesB L n = false := pagesB_stop (k := k + 1) (by rw [HSU.out, decide_eq_false (show ¬ 18 ≤ z by omega)]; rfl) (by omega)
            obtain rfl : ec = 330 := by rw [← HE.out, hf]; rfl
            clear hf
            go_wp2_with fail
            go_ret
            exact ⟨rfl, HB.out⟩
          · by_cases k2 : z ≥ 256
            · have hf : pagesB L n = false := pagesB_stop (k := k + 1) (by rw [HSU.out, decide_eq_false (show ¬ z ≤ 255 by omega), Bool.and_false]; rfl) (by omega)
              obtain rfl : ec = 330 := by rw [← HE.out, hf]; rfl
              clear hf
              go_wp2_with fail
              go_ret
              exact ⟨rfl, HB.out⟩
            · obtain ⟨p, rfl⟩ : ∃ p : Nat, z = (p : Int) := ⟨z.toNat, by omega⟩
              have hp : p < 256 := by omega
              have hc := HM.out.cell p
              rw [metC_at _ _ hp] at hc
              have HC : Hid (wA.cell? ⟨g4, 0 + (p : Int).toNat * 1, none⟩ = some (.bool ((L.take k).contains (p : Int)))) := Lib.hid (by rw [Int.toNat_natCast, Nat.mul_one, Nat.zero_add]; exact hc)
              have hs2 := HSU.out
              rw [decide_eq_true (show (18 : Int) ≤ p by omega), decide_eq_true (show (p : Int) ≤ 255 by omega)] at hs2
              obtain ⟨m, hm⟩ : ∃ m, (L.take k).contains (p : Int) = m := ⟨_, rfl⟩
              rw [hm] at HC hs2
              have HS2 := Lib.hid hs2
              clear hc hs2 hm
              go_upto_region 8 with (fail)
              refine Agg.listR 11 (by kernel_rfl) ?_
              simp only [List.take_succ_cons, List.take_zero, List.drop_succ_cons, List.drop_zero]
              refine Agg.chMove rfl rfl rfl rfl ?_
              refine Agg.chLt false (decide_eq_false k1) rfl rfl rfl rfl rfl ?_
              refine Agg.chMove rfl rfl rfl rfl ?_
              refine Agg.chMove rfl rfl rfl rfl ?_
              refine Agg.chGe false (decide_eq_false k2) rfl rfl rfl rfl rfl ?_
              refine Agg.chPick rfl rfl rfl rfl rfl ?_
              refine Agg.chMove rfl rfl rfl rfl ?_
              refine Agg.chMove rfl rfl rfl rfl ?_
              refine Agg.chIAA aiMet (by omega) (by omega) rfl rfl rfl rfl rfl ?_
              refine Agg.chLoad rfl rfl rfl rfl (by decide +kernel) HC.out ?_
              refine Agg.chPick rfl rfl rfl rfl rfl ?_
              refine Agg.chEnd ?_
              intro vs w81 hb _
              show Exit.then _ _ Exit.normal _ _
              simp only [List.reverse, List.reverseAux, Agg.fill, List.set_cons_succ, List.set_cons_zero]
              replace HB := Lib.hid (HB.out.trans (hb.mono HB.out.size))
              replace HM := Lib.hid (HM.out.keep hb)
              clear hb
              cases m
              · have hl := (metC_set (L.take k) p hp)
                rw [← HTK.out] at hl
                have HL := Lib.hid hl
                clear hl
                go_upto_region 10 with (fail)
                refine Agg.listR 2 (by kernel_rfl) ?_
                simp only [List.take_succ_cons, List.take_zero, List.drop_succ_cons, List.drop_zero]
                refine Agg.chMove rfl rfl rfl rfl ?_
                refine Agg.chIAA aiMet (by omega) (by omega) rfl rfl rfl rfl rfl ?_
                refine Agg.chEnd ?_
                intro vs w82 hb hf
                simp only [List.reverse, List.reverseAux, Agg.Facts] at hf
                obtain _ := hf
                simp only [List.reverse, List.reverseAux, Agg.fill, List.set_cons_succ, List.set_cons_zero]
                have hx := HM.out.keep hb
                have hbw := HB.out.trans (hb.mono HB.out.size)
                go_wp2_with (first
                  | (refine Agg.gStoreCell (0 + (p : Int).toNat * 1) (.bool true) hx rfl rfl rfl rfl rfl (by kernel_rfl) rfl (by rw [metC_len]; omega) rfl (fun w5 hb5 hg5 => ?_)))
                simp only [Int.toNat_natCast, Nat.mul_one, Nat.zero_add] at hb5
                rw [spliced_set _ _ _ (by rw [metC_len]; exact hp), HL.out] at hb5
                go_wp2_with fail
                exact ⟨⟨k + 1, by omega, by go_num, by rw [HS2.out]; rfl, hb5, hbw.trans (grown_below hg5 hbw.size (fun j hj => by cases hj; exact hsz))⟩, by simp [intOf]; omega⟩
              · have hf : pagesB L n = false := pagesB_stop (k := k + 1) (by rw [HS2.out]; rfl) (by omega)
                obtain rfl : ec = 330 := by rw [← HE.out, hf]; rfl
                clear hf
                go_wp2_with fail
                go_ret
                exact ⟨rfl, HB.out⟩
        · obtain rfl : k = n := by omega
          obtain rfl : ec = 0 := by rw [← HE.out, HP.out]; rfl
          go_wp2_with fail
          go_ret
          exact ⟨rfl, HB.out⟩
end Go.Proofs.Ytjnnnnolikbjcaa
end
section
/-
  ROOTS: numbers laid as bytes.
-/
namespace Go.Proofs.Ytjnnnnolikbjcaa
open Go.ChangeShapes Go.WideShapes Go.ChangeAt Go.RowKit Agg Pg Dv
attribute [local go_sem] Oper.semAt_some

/-- append to a row that is full -/
theorem run_append_full {P : Program} {t e : TypeId} {bytes : Nat} {z : Value} (T : TI P t e 1 bytes z) (ty : TypeId) (w : World) {g n : Nat} {xs : List Value} (H : Blk w g e xs) (hn : xs.length = n)
    {xv : Value} {m : Nat} {news : List Value} (hsl : SlR w xv 1 m news) (h1 : ∀ u ∈ news, u.oneCell' = true) (hm : 0 < m) (h63 : n + m ≤ maxLen) (hbytes : (n + m) * bytes ≤ 140737488355328) :
    ∃ v' w', (Builtin.append_ #[t, t] ty #[.slice (some ⟨g, 0, none⟩) n n, xv]).run P w = .ok v' w' ∧ w'.ownsRow w.heap.size e 1 v' (n + m) (xs ++ news) ∧ Below w.heap.size w w' := by
  have hgl := H.lt
  have hown : w.ownsRow 0 e 1 (.slice (some ⟨g, 0, none⟩) n n) n xs := blk_own (r := []) (by rw [List.append_nil]; exact H) (Nat.zero_le _) (Nat.le_refl _) (by omega) (by simp [hn]) (by simp [hn])
  obtain ⟨v', w', hr, ho, _, _⟩ := run_append_sl T ty w 0 hown hsl h1 h63 hbytes (Nat.zero_le _)
  refine ⟨v', w', hr, ?_⟩
  obtain ⟨i, hi, hz, hs, hb⟩ := T.info
  have hm' : n + m ≤ 9223372036854775807 := by unfold maxLen at h63; omega
  rcases hsl.2 with ⟨rfl, rfl⟩ | ⟨x, cap, rfl, _, _, h5⟩
  · omega
  · have hrun := run_append_grow (P := P) w t ty e i z T.ht hi hz ⟨g, 0, none⟩ n n xs (by rw [hs]; exact hown.1) (World.ownsRow.cells (g := g) hown rfl) x m cap news (by rw [hs]; exact hsl.1) h5 (by omega) (by omega)
      (by rw [hb]; exact growslice_fits (by omega) hbytes)
    rw [hrun] at hr
    cases hr
    refine ⟨⟨ho.1, ?_⟩, ?_⟩
    · rcases ho.2 with ⟨h, _⟩ | ⟨g2, cap2, cur2, h1, _, h3⟩
      · cases h
      · have e : w.heap.size = g2 := by injection h1 with h1; injection h1 with h1; injection h1
        exact .inr ⟨g2, cap2, cur2, h1, by omega, h3⟩
    · exact (bel_drew (Below.refl _ _)).alloc (Nat.le_refl _) _
theorem appendF {P : Program} {ops : Array Oper} {rest : List Oper} {o : Oper} {a : Act} {w : World} {Q : Exit → Act → World → Prop} {t e : TypeId} {bytes : Nat} {z : Value} (T : TI P t e 1 bytes z) (s x : Operand) (hg : o.guard = none) (ho : o.op = .call { callee := .builtin .append, args := #[s, x], argTypes := #[t, t] })
    {g n : Nat} {xs : List Value} (hs : a.eval s = .slice (some ⟨g, 0, none⟩) n n) (H : Blk w g e xs) (hn : xs.length = n) {xv : Value} {m : Nat} {news : List Value} (hx : a.eval x = xv) (hsl : SlR w xv 1 m news)
    (h1 : ∀ u ∈ news, u.oneCell' = true) (hm : 0 < m) (h63 : n + m ≤ maxLen) (hbytes : (n + m) * bytes ≤ 140737488355328)
    (h : ∀ v' w', w'.ownsRow w.heap.size e 1 v' (n + m) (xs ++ news) → Below w.heap.size w w' → wpList P ops Q rest (a.put o.dst v') w') : wpList P ops Q (o :: rest) a w := by
  obtain ⟨v', w', hr, h2, h3⟩ := run_append_full T o.type w H hn hsl h1 hm h63 hbytes
  refine Agg.run hg v' w' ?_ (h v' w' h2 h3)
  simp [execOp, ho, resolve, hs, hx, invoke, builtin, hr]
/-- bytes in a row that is full, or in one of their own -/
def RowN (base : Nat) (w : World) (v : Value) (B : List UInt8) : Prop := (∃ g, v = .slice (some ⟨g, 0, none⟩) B.length B.length ∧ Blk w g 5 (bv B)) ∨ w.ownsRow base 5 1 v B.length (bv B)
theorem RowN.keep {base : Nat} {w w' : World} {v : Value} {B : List UInt8} (h : RowN base w v B) (hb : Below w.heap.size w w') : RowN base w' v B :=
  h.imp (fun ⟨g, h1, h2⟩ => ⟨g, h1, h2.keep hb⟩) (fun h => own_keep h hb)
theorem RowN.bytes {base : Nat} {w : World} {v : Value} {B : List UInt8} (h : RowN base w v B) (hl : B.length ≤ maxLen) : Bytes w v B := by
  rcases h with ⟨g, rfl, h⟩ | h
  · exact ownSl (base := 0) (e := 5) (blk_own (r := []) (by rw [List.append_nil]; exact h) (Nat.zero_le _) (Nat.le_refl _) hl (by simp [bv]) (by simp [bv]))
  · exact ownSl h
theorem beB_succ (k : Nat) (z : Int) (j : Nat) (h : j < k) : (beB k z).take (j + 1) = (beB k z).take j ++ [UInt8.ofNat (z / 2 ^ (8 * (k - 1 - j)) % 256).toNat] := by
  have hl : j < (beB k z).length := by rw [beB_len]; exact h
  rw [List.take_succ_eq_append_getElem hl]
  congr 2
  simp [beB]
theorem RowN.step {base : Nat} {w : World} {v : Value} {C : List UInt8} {n : Nat} {y : Int} (hn : n = C.length) (ho : w.ownsRow base 5 1 v (n + 1) (bv C ++ [.int .u8 (y % 256)])) : RowN base w v (C ++ [UInt8.ofNat (y % 256).toNat]) := by
  refine .inr ?_
  rw [List.length_append, bv_append, ← hn]
  have e : bv [UInt8.ofNat (y % 256).toNat] = [.int .u8 (y % 256)] := by
    show [Value.int .u8 ((UInt8.ofNat (y % 256).toNat).toNat : Int)] = _
    rw [of8]
  rw [e]
  exact ho
set_option maxHeartbeats 4000000 in
set_option maxRecDepth 100000 in
theorem number_any (K : World → Prop) (base : Nat) (k : Nat) (l : List Int) (B : List UInt8) (u x : Value) (w : World) (hK1 : ∀ W W', K W → Below W.heap.size W W' → K W')
    (hK2 : ∀ W W' v n xs, K W → W.ownsRow base 5 1 v n xs → W.grownBy W' v.ownBlock → K W') (hKx : ∀ W, K W → Ints W x l) (h0 : K w) (hbase : base ≤ w.heap.size) (hu : RowN base w u B)
    (hk : k = 2 ∨ k = 4) (hl : l.length ≤ 1000) (hB : B.length ≤ 10000) (hz : ∀ z ∈ l, 0 ≤ z ∧ z ≤ 1000000) :
    Calls Try.prog 74 #[u, .int .i64 (k : Int), x] w fun e w' => ∃ v, e = .returned v ∧ RowN base w' v (B ++ l.flatMap (beB k)) ∧ K w' ∧ Below base w w' := by
  obtain ⟨xa, xc, rfl, hc1, hc2⟩ := ints_shape (hKx w h0)
  have HK1 := Lib.hid hK1
  have HK2 := Lib.hid hK2
  have HKX := Lib.hid hKx
  have H0 := Lib.hid h0
  have HU := Lib.hid hu
  have HZ := Lib.hid hz
  clear hK1 hK2 hKx h0 hu hz hc1 hc2
  have hk4 : k ≤ 4 := by omega
  have HB := Lib.hid (Below.refl w.heap.size w)
  go_enter Try.func74, Try.ntmps74
  clear HB
  go_wp2_with fail
  go_loopw [12, 0] (fun ix s0 wr => ∃ i : Nat, i ≤ l.length ∧ ix = .int .i64 i ∧ RowN base wr s0 (B ++ (l.take i).flatMap (beB k)) ∧ K wr ∧ Below base w wr) (fun ix _ _ => l.length - (intOf ix).toNat)
  case atStart => exact ⟨0, by omega, rfl, by simpa using HU.out, H0.out, Below.refl _ _⟩
  case round =>
    obtain ⟨i, hi, rfl, hr, hkw, hb⟩ := hrel
    have HR := Lib.hid hr
    have HKW := Lib.hid hkw
    have HB := Lib.hid hb
    clear hr hkw hb
    obtain ⟨wA, hwA⟩ : ∃ x, x = wr := ⟨_, rfl⟩
    subst hwA
    by_cases hlt : i < l.length
    · have hix := HKX.out wA HKW.out
      obtain ⟨b, o, cap', hve, _⟩ := SlR.pos hix (by decide) (by omega)
      injection hve with q1 q2 q3
      subst q1
      clear q2 q3
      have hcell := ints_at hix hlt
      have hz := HZ.out _ (List.getElem_mem hlt)
      have hst := List.take_succ_eq_append_getElem hlt
      obtain ⟨z, hzz⟩ : ∃ z, l[i] = z := ⟨_, rfl⟩
      rw [hzz] at hcell hz hst
      have HST := Lib.hid hst
      clear hzz hst hix
      obtain ⟨B1, hB1⟩ : ∃ B1, B ++ (l.take i).flatMap (beB k) = B1 := ⟨_, rfl⟩
      rw [hB1] at HR
      have HB1 := Lib.hid hB1
      clear hB1
      go_wp2_with fail
      clear hcell
      go_loopw [9, 0] (fun s9 s0 wr => ∃ (j : Nat) (v2 : Value), j ≤ k ∧ s9 = .int .i64 ((k : Int) - 1 - (j : Int)) ∧ v2 = s0 ∧ RowN base wr v2 (B1 ++ (beB k z).take j) ∧ K wr ∧ Below base w wr) (fun s9 _ _ => (intOf s9 + 1).toNat)
      case atStart => exact ⟨0, _, by omega, by congr 1; omega, rfl, by simpa using HR.out, HKW.out, HB.out⟩
      case round =>
        obtain ⟨j, v2, hj, rfl, rfl, hr2, hkw2, hb2⟩ := hrel
        have HR2 := Lib.hid hr2
        have HKW2 := Lib.hid hkw2
        have HB2 := Lib.hid hb2
        clear hr2 hkw2 hb2
        obtain ⟨wC, hwC⟩ : ∃ x, x = wr := ⟨_, rfl⟩
        subst hwC
        by_cases hlt2 : j < k
        · obtain ⟨C, hC⟩ : ∃ C, B1 ++ (beB k z).take j = C := ⟨_, rfl⟩
          have hcl : C.length ≤ 20000 := by
            rw [← hC, ← HB1.out, List.length_append, List.length_append, List.length_take, beB_len]
            have h1 : ((l.take i).flatMap (beB k)).length ≤ 4 * i := by
              rw [List.length_flatMap]
              have : ((l.take i).map fun a => (beB k a).length) = List.replicate (l.take i).length k := by
                refine List.eq_replicate_iff.2 ⟨by simp, fun b hb => ?_⟩
                obtain ⟨a, _, rfl⟩ := List.mem_map.1 hb
                exact beB_len k a
              rw [this, List.sum_replicate_nat, List.length_take]
              have := Nat.mul_le_mul (Nat.min_le_left i l.length) hk4
              omega
            omega
          rw [hC] at HR2
          have hss := beB_succ k z j hlt2
          have hCS : C ++ [UInt8.ofNat (z / 2 ^ (8 * (k - 1 - j)) % 256).toNat] = B1 ++ (beB k z).take (j + 1) := by rw [hss, ← List.append_assoc, hC]
          have HCS := Lib.hid hCS
          clear hss hCS hC
          have hbA : Below wC.heap.size wC (wC.alloc (.cells #[.int .u8 (z / 2 ^ (8 * (k - 1 - j)) % 256)] 5)) := (Below.refl _ _).alloc (Nat.le_refl _) _
          have HSL : Hid (SlR (wC.alloc (.cells #[.int .u8 (z / 2 ^ (8 * (k - 1 - j)) % 256)] 5)) (.slice (some ⟨wC.heap.size, 0, none⟩) 1 1) 1 1 [.int .u8 (z / 2 ^ (8 * (k - 1 - j)) % 256)]) := Lib.hid (NewSl.sl (b0 := 0) (e := 5) ⟨_, rfl, Nat.zero_le _, Blk.new wC 5 #[.int .u8 (z / 2 ^ (8 * (k - 1 - j)) % 256)]⟩ rfl (by unfold maxLen; decide))
          have hsl := HSL.out
          have hone : ∀ u ∈ [Value.int .u8 (z / 2 ^ (8 * (k - 1 - j)) % 256)], u.oneCell' = true := by simp [Value.oneCell']
          have hbs : base ≤ wC.heap.size := Nat.le_trans hbase HB2.out.size
          have hbs2 : base ≤ (wC.alloc (.cells #[.int .u8 (z / 2 ^ (8 * (k - 1 - j)) % 256)] 5)).heap.size := Nat.le_trans hbs hbA.size
          rcases HR2.out with ⟨g, rfl, H⟩ | Ho
          · have hH := H.keep hbA
            go_upto_region 7 with (fail)
            go_wp2_with (first
              | (refine appendF ti25 _ _ rfl rfl rfl hH (by simp [bv]) rfl hsl hone (by decide) (by unfold maxLen; omega) (by omega) (fun v4 w4 ho4 hb4 => ?_)))
            have hb5 := hbA.trans (hb4.mono hbA.size)
            have hr5 := RowN.step rfl (own_base ho4 hbs2)
            rw [HCS.out] at hr5
            exact ⟨⟨j + 1, _, by omega, by congr 1; omega, rfl, hr5, HK1.out _ _ HKW2.out hb5, HB2.out.trans (hb5.mono hbs)⟩, by simp [intOf]; omega⟩
          · obtain ⟨xo, co, rfl, _, _⟩ := (ownSl Ho).shape
            have hH := own_keep Ho hbA
            go_upto_region 7 with (fail)
            go_wp2_with (first
              | (refine Agg.append2 ti25 _ _ rfl rfl base rfl hH rfl hsl hone (by unfold maxLen; omega) (by omega) hbs2 ?_; intro v4 w4 ho4 hg4 _))
            have hr5 := RowN.step rfl ho4
            rw [HCS.out] at hr5
            have hbz := (HB2.out.trans (hbA.mono hbs)).trans (grown_below hg4 hbs2 (own_block hH))
            exact ⟨⟨j + 1, _, by omega, by congr 1; omega, rfl, hr5, HK2.out _ _ _ _ _ (HK1.out _ _ HKW2.out hbA) hH hg4, hbz⟩, by simp [intOf]; omega⟩
        · obtain rfl : k = j := by omega
          have hr3 := HR2.out
          rw [List.take_of_length_le (by rw [beB_len]; exact Nat.le_refl _), ← HB1.out, List.append_assoc] at hr3
          have HR3 : Hid (RowN base wC v2 (B ++ (l.take (i + 1)).flatMap (beB k))) := Lib.hid (by
            rw [HST.out, List.flatMap_append]
            simpa using hr3)
          clear hr3
          go_wp2_with fail
          exact ⟨⟨i + 1, by omega, by go_num, HR3.out, HKW2.out, HB2.out⟩, by simp [intOf]; omega⟩
    · obtain rfl : i = l.length := by omega
      go_wp2_with fail
      go_ret
      refine ⟨_, rfl, ?_, HKW.out, HB.out⟩
      have := HR.out
      rw [List.take_length] at this
      exact this
end Go.Proofs.Ytjnnnnolikbjcaa
end
section
/-
  ROOTS: data.
-/
namespace Agg
open Go Go.RowKit
section
variable {n kk : Nat} {P : Program} {l rest : List Oper} {W : World} {l0 : List Value} {ds : List Deferred} {acc : List R} {o : Oper} {fin : List R → Prop}
theorem chCallB {f : FuncId} {fn : Func} (hf : P.funcs[f]? = some fn) (hbody : fn.body.isNone = false) (hname : (fn.name == "runtime.NumGoroutine") = false) {x y : Operand} {vx vy : Value} {t : Nat} {ts : Array TypeId} (j : Nat) {g : Value → World → Prop} (G : Value → World → Prop) (hst : Stable G)
    (ho : o.op = .call { callee := .value (.func f), args := #[.tmp t, x, y], argTypes := ts }) (hx : rd (l.take n) l0 kk acc o x = some vx) (hy : rd (l.take n) l0 kk acc o y = some vy) (hd : depL o j = true) (hj : look kk acc j = some (.op g)) (ht : (l[j]?).map (·.dst) = some (some t)) (hw : wants kk acc o = some true) (hk : gOk l o = true)
    (hc : ∀ u w, Below W.heap.size W w → g u w → Calls P f #[u, vx, vy] w fun e w' => ∃ v, e = .returned v ∧ G v w' ∧ Below w.heap.size w w')
    (h : ChainR n P l.toArray W ⟨l0.toArray, ds⟩ (kk + 1) ((.op G) :: acc) rest fin) : ChainR n P l.toArray W ⟨l0.toArray, ds⟩ kk acc (o :: rest) fin :=
  chCallA (r := .op G) (by rw [ho]; rfl) hw hk hst hf hbody hname ho (fun a w hh => by
    obtain ⟨u, hu, hg⟩ := hh.op j t hd hj ht
    have e : (#[Operand.tmp t, x, y].map a.eval) = #[u, vx, vy] := by simp [hu, hh.rd hx, hh.rd hy]
    rw [e]
    exact hc u w hh.below hg) h
end
end Agg
namespace Go.Proofs.Ytjnnnnolikbjcaa
open Go.ChangeShapes Go.WideShapes Go.ChangeAt Go.RowKit Agg Pg Dv
attribute [local go_sem] Oper.semAt_some

theorem RowN.base {b b' : Nat} {w : World} {v : Value} {B : List UInt8} (h : RowN b w v B) (hb : b' ≤ b) : RowN b' w v B := h.imp id (fun h => own_base h hb)
theorem RowN.stable (b : Nat) (B : List UInt8) : Stable (fun v w => RowN b w v B) := fun _ _ _ h hb => RowN.keep h hb

set_option maxHeartbeats 4000000 in
set_option maxRecDepth 100000 in
theorem data_any (r : Rt) (v : Value) (w : World) (hv : RtR w v r) (hr : RightR r) :
    Calls Try.prog 56 #[v] w fun e w' => ∃ u, e = .returned u ∧ RowN w.heap.size w' u (dataR r) ∧ Below w.heap.size w w' := by
  obtain ⟨sl, rfl, hs⟩ := hv.ex
  obtain ⟨x, c, rfl, hc1, hc2⟩ := ints_shape hs
  have hn57 := hr.n57
  have hb1 := hr.b1
  have hb2 := hr.b2
  have hn1 := hr.n1
  have HPG := Lib.hid (fun z (h : z ∈ r.pages) => hr.page h)
  have HS := Lib.hid hs
  obtain ⟨s, st, L, by'⟩ := r
  unfold rtV dataR
  dsimp only at hn57 hb1 hb2 hn1 HPG HS ⊢
  clear hs hr hv hc1 hc2
  have HB := Lib.hid (Below.refl w.heap.size w)
  go_enter Try.func56, Try.ntmps56
  go_upto_region 1 with (fail)
  refine Agg.wp_at fun w1 hw1 => ?_
  have hb : Below w.heap.size w w1 := by rw [hw1.out]; repeat (first | exact Below.refl _ _ | refine Agg.bel_drew ?_ | refine Agg.bel_alloc ?_ _)
  replace HB := Lib.hid (HB.out.trans (hb.mono HB.out.size))
  replace HS := Lib.hid (HS.out.keep hb)
  clear hb
  have H1 : Hid (Blk w1 w.heap.size 26 [.int .i64 s, .int .u64 (st : Int), .slice x L.length c, .int .i64 by']) := by show Blk _ _ _ _; rw [hw1.out]; exact Blk.new w 26 #[.int .i64 s, .int .u64 (st : Int), .slice x L.length c, .int .i64 by']
  clear hw1
  have hsz := HB.out.size
  have hu8 : IntKind.u8.wrap (L.length : Int) = (L.length : Int) := by simp [IntKind.wrap, IntKind.bits, IntKind.signed]; omega
  have HU8 := Lib.hid hu8
  clear hu8
  have HCL : Hid (∀ u W, Below w1.heap.size w1 W → NewSl w1.heap.size 5 1 [.int .u8 (L.length : Int)] u W → Calls Try.prog 74 #[u, .int .i64 (2 : Int), .slice x L.length c] W fun e w' => ∃ v, e = .returned v ∧ RowN w1.heap.size w' v (UInt8.ofNat L.length :: L.flatMap (beB 2)) ∧ Below W.heap.size W w') := Lib.hid (fun u W hb hg => by
    obtain ⟨g, rfl, _, hg2⟩ := hg
    have hls : (UInt8.ofNat L.length).toNat = L.length := by rw [UInt8.toNat_ofNat']; omega
    have h := number_any (fun V => Below W.heap.size W V) W.heap.size 2 L [UInt8.ofNat L.length] (.slice (some ⟨g, 0, none⟩) 1 1) (.slice x L.length c) W
      (fun A B h1 h2 => h1.trans (h2.mono h1.size)) (fun A B v n xs h1 h2 h3 => h1.trans (grown_below h3 h1.size (own_block h2))) (fun A h => SlR.keep (HS.out.keep hb) h) (Below.refl _ _) (Nat.le_refl _)
      (.inl ⟨g, rfl, by show Blk _ _ _ [Value.int .u8 ((UInt8.ofNat L.length).toNat : Int)]; rw [hls]; exact hg2⟩) (.inl rfl) (by omega) (by simp) (fun z hz => by have := HPG.out z hz; omega)
    refine h.mono ?_
    rintro e w' ⟨v, rfl, h1, _, h3⟩
    exact ⟨v, rfl, h1.base hb.size, h3⟩)
  refine Agg.chainR 11 (by kernel_rfl) (by kernel_rfl) ?_
  simp only [List.take_succ_cons, List.take_zero, List.drop_succ_cons, List.drop_zero]
  refine Agg.chFA fo_Rt_2 rfl rfl rfl rfl ?_
  refine Agg.chLoadB H1.out (by decide +kernel) rfl rfl (by rfl) rfl rfl ?_
  refine Agg.chLen Try.underlying24 rfl rfl rfl rfl ?_
  refine Agg.chInt (L.length : Int) HU8.out (by kernel_rfl) Try.underlying5 rfl rfl rfl rfl ?_
  refine Agg.chBuildSlice (e := 5) (ps := [(0, .tmp 6)]) #[.int .u8 (L.length : Int)] rfl rfl rfl rfl (fun W => by kernel_rfl) ?_
  refine Agg.chFA fo_Rt_2 rfl rfl rfl rfl ?_
  refine Agg.chLoadB H1.out (by decide +kernel) rfl rfl (by rfl) rfl rfl ?_
  refine chCallB Try.func74 rfl rfl 4 (fun v W => RowN w1.heap.size W v (UInt8.ofNat L.length :: L.flatMap (beB 2))) (RowN.stable _ _) rfl rfl rfl rfl rfl rfl rfl rfl HCL.out ?_
  refine Agg.chFA fo_Rt_3 rfl rfl rfl rfl ?_
  refine Agg.chLoadB H1.out (by decide +kernel) rfl rfl (by rfl) rfl rfl ?_
  refine Agg.chBuildSlice (e := 3) (ps := [(0, .tmp 12)]) #[.int .i64 by'] rfl rfl rfl rfl (fun W => by kernel_rfl) ?_
  refine Agg.chEnd ?_
  intro vs w2 hb hf
  simp only [List.reverse, List.reverseAux, Agg.Facts] at hf
  obtain ⟨_, h7, ⟨g10, hv10, hg10, hb10⟩, _⟩ := hf
  simp only [List.reverse, List.reverseAux, Agg.fill, List.set_cons_succ, List.set_cons_zero, hv10]
  obtain ⟨u7, hu7⟩ : ∃ u, vs (0 + 1 + 1 + 1 + 1 + 1 + 1 + 1) = u := ⟨_, rfl⟩
  rw [hu7] at h7
  simp only [hu7]
  refine Agg.tCall Try.func74 rfl (by kernel_rfl) rfl rfl (args := [.tmp 10, .const (.int .i64 4), .tmp 13]) (vs := [u7, .int .i64 ((4 : Nat) : Int), .slice (some ⟨g10, 0, none⟩) 1 1]) rfl ?_
  have hflat : (L.flatMap (beB 2)).length = 2 * L.length := flat2_len L
  refine (number_any (fun V => Blk V g10 3 [.int .i64 by']) w1.heap.size 4 [by'] (UInt8.ofNat L.length :: L.flatMap (beB 2)) u7 (.slice (some ⟨g10, 0, none⟩) 1 1) w2
    (fun A B h1 h2 => h1.keep h2) (fun A B v n xs h1 h2 h3 => blk_row h1 h3 (own_apart h2 h1 (by decide))) (fun A h => ownSl (base := 0) (e := 3) (blk_own (r := []) (by rw [List.append_nil]; exact h) (Nat.zero_le _) (Nat.le_refl _) (by unfold maxLen; decide) rfl rfl)) hb10 hb.size
    h7 (.inr rfl) (by simp) (by rw [List.length_cons, hflat]; omega) (fun z hz => by simp at hz; omega)).mono ?_
  rintro e w9 ⟨v9, rfl, hr9, _, hb9⟩
  refine ⟨_, rfl, ?_⟩
  have HR9 := Lib.hid (hr9.base hsz)
  have hbw := (HB.out.trans (hb.mono HB.out.size)).trans (hb9.mono hsz)
  have HB9 := Lib.hid hbw
  clear hr9 hb9 hbw hb hb10 h7 HCL H1 HS HB
  rw [Agg.put_eq]
  simp only [List.set_cons_succ, List.set_cons_zero]
  refine Agg.tAssign rfl rfl rfl ?_
  simp only [Agg.ev, List.getD_cons_zero, List.getD_cons_succ, List.set_cons_succ, List.set_cons_zero]
  refine Agg.wpNil ?_
  go_wp2_with fail
  go_ret
  refine ⟨_, rfl, ?_, HB9.out⟩
  have := HR9.out
  simpa using this
end Go.Proofs.Ytjnnnnolikbjcaa
end
