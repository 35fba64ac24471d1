/-
  THE WALKS OF LAYER 7 (runs): the pieces of some places.
-/
import Derived.Test.YtpligbfajnjklaaRuU
section
namespace Go.Proofs.Ytpligbfajnjklaa
open Go.ChangeShapes Go.WideShapes Go.ChangeAt Go.RowKit Agg Pg Ru

theorem blk_sl {w : World} {g : Nat} {T : TypeId} {D : List Rn} {R : List Value} (n cap : Nat) (H : Blk w g T (D.flatMap ruC ++ R)) (hn : D.length = n) (hc : n ≤ cap) (hm : cap ≤ maxLen) : Rus w (.slice (some ⟨g, 0, none⟩) n cap) D := by
  subst hn
  refine ⟨by rw [flat_len ruC 3 _ (fun _ _ => rfl)], .inr ⟨_, cap, rfl, hc, hm, fun i u hu => ?_⟩⟩
  rw [add_none, Nat.zero_add, H.cell]
  have hl := (List.getElem?_eq_some_iff.1 hu).1
  rw [List.getElem?_append_left hl]; exact hu
theorem spliced_next (D : List Rn) (R : List Value) (p : Rn) (n : Nat) (hn : n = D.length * 3) : spliced (D.flatMap ruC ++ R) n (ruC p) = (D ++ [p]).flatMap ruC ++ R.drop 3 := by
  subst hn
  unfold spliced
  have e : D.length * 3 = (D.flatMap ruC).length := by rw [flat_len ruC 3 _ (fun _ _ => rfl)]
  rw [e, List.take_left, List.flatMap_append, List.drop_append, List.drop_eq_nil_of_le (by omega), List.nil_append]
  simp [ruC]
theorem build_pc (a s c : Int) (w : World) : (Instr.build 31 #[(0, .int .i64 a), (1, .int .i64 s), (2, .int .i64 c)]).run Try.prog w = .ok (.agg (ruC (a, s, c)).toArray) w := build_run3 a s c w
set_option maxHeartbeats 4000000 in
set_option maxRecDepth 100000 in
theorem pieces_any (l : List Rn) (v : Value) (i j : Int) (w : World) (hi : -1000 ≤ i ∧ i ≤ 1000) (hj : -1000 ≤ j ∧ j ≤ 1000) (hl : Rus w v l) (hr : risesB l = true) :
    Calls Try.prog 46 #[v, .int .i64 i, .int .i64 j] w fun e w' => ∃ u, e = .returned u ∧ Rus w' u (piecesR l i j) ∧ Below w.heap.size w w' := by
  obtain ⟨x, cap, rfl, _, _⟩ := SlR.shape hl
  have HL := Lib.hid hl
  have HLW := HL
  have hln : l.length ≤ 256 := ((rises_iff l).1 hr).2.1
  have hl1 : 1 ≤ l.length := ((rises_iff l).1 hr).1
  have HR := Lib.hid hr
  have HSZ := Lib.hid (rises_ends hr).1
  have HPS := Lib.hid (fun k hk => pieces_snoc l k hk i j)
  have HPL := Lib.hid (fun k => pieces_len (l.take k) i j)
  obtain ⟨R, hR⟩ : ∃ R, piecesR l i j = R := ⟨_, rfl⟩
  have HRR := Lib.hid hR
  rw [hR]
  clear hl hr hR
  have HB := Lib.hid (Below.refl w.heap.size w)
  go_enter Try.func46, Try.ntmps46
  go_upto_region 2 with (refine Agg.make ti24 _ _ rfl rfl l.length l.length rfl rfl rfl rfl (Nat.le_refl _) (by omega) (by unfold maxLen; omega) ?_; simp only [Act.put, List.setIfInBounds_toArray, List.set_cons_succ, List.set_cons_zero])
  refine Agg.wp_at fun w1 hw1 => ?_
  have hb : Below w.heap.size w w1 := by rw [hw1.out]; repeat (first | exact Below.refl _ _ | refine Agg.bel_drew ?_ | refine Agg.bel_alloc ?_ _)
  replace HB := Lib.hid (HB.out.trans (hb.mono HB.out.size))
  replace HL := Lib.hid (HL.out.keep hb)
  clear hb
  have hlit := World.ownsRow_lit (e := 31) (size := 3) (base := w.heap.size) w (madeCells (Value.cells (.agg #[.int .i64 0, .int .i64 0, .int .i64 0])) (l.length * 3)) l.length (by simp) (by unfold maxLen; omega) (size_madeCells _ _)
  rw [← hw1.out] at hlit
  have HO := Lib.hid hlit
  clear hlit hw1
  have ho := HO.out
  have hll := HL.out
  have HXL : Hid ((madeCells (Value.cells (.agg #[.int .i64 0, .int .i64 0, .int .i64 0])) (l.length * 3)).toList.length = l.length * 3) := Lib.hid (by simp [size_madeCells])
  generalize (madeCells (Value.cells (.agg #[.int .i64 0, .int .i64 0, .int .i64 0])) (l.length * 3)).toList = xs at *
  go_upto_region 3 with (refine Agg.copy ti24 _ _ rfl rfl ho 0 l.length l.length rfl rfl rfl hll (rus_one l) l.length (by simp) (by omega) (fun w6 ho6 hg6 => ?_))
  obtain ⟨Rx, hbx, _, _, _, hlx⟩ := ownBlk ho6.out
  generalize spliced xs (0 * 3) (List.take (l.length * 3) (List.flatMap ruC l)) = ys at *
  have hb6 : Below w.heap.size w w6 := HB.out.trans (grown_below hg6 HB.out.size (fun j hj => by cases hj; exact Nat.le_refl _))
  have hg6l := hg6.size
  obtain ⟨g, hg⟩ : ∃ g, w.heap.size = g := ⟨_, rfl⟩
  rw [hg] at hbx
  have HB6 := Lib.hid hb6
  have HG := Lib.hid (And.intro hg hlx)
  have HBX := Lib.hid hbx
  have HL0 := Lib.hid (SlR.keep HLW.out hb6)
  rw [hg]
  clear ho ho6 hg6 HO HXL hb6 hg hbx hlx hll HB HL hg6l
  go_wp2_with fail
  go_loopw [1, 2, 8, 21] (fun s1 s2 s8 ix wr => ∃ (k : Nat) (S : List Value), k ≤ l.length ∧ ix = .int .i64 k ∧ s1 = .int .i64 (i - many (l.take k)) ∧ s2 = .int .i64 (j - many (l.take k)) ∧ s8 = .int .i64 ((piecesR (l.take k) i j).length : Int) ∧ Below w.heap.size w wr ∧ Blk wr g 31 ((piecesR (l.take k) i j).flatMap ruC ++ S) ∧ ((piecesR (l.take k) i j).flatMap ruC ++ S).length = l.length * 3) (fun _ _ _ ix _ => l.length - (intOf ix).toNat)
  case atStart => exact ⟨0, ys ++ Rx, by omega, rfl, by simp [many], by simp [many], by simp [piecesR], HB6.out, by simpa [piecesR] using HBX.out, by simpa [piecesR] using HG.out.2⟩
  case round =>
    obtain ⟨k, S, hk, rfl, rfl, rfl, rfl, hb, h1, h2⟩ := hrel
    have HB := Lib.hid hb
    have HBK := Lib.hid h1
    have HLN := Lib.hid h2
    have HBKA := Lib.hid h1
    have HL := Lib.hid (SlR.keep HLW.out hb)
    clear hb h1 h2 HBX HB6 HL0
    obtain ⟨wA, hwA⟩ : ∃ x, x = wr := ⟨_, rfl⟩
    subst hwA
    by_cases hlt : k < l.length
    · have hat := at_rises HR.out hlt
      have hpos := hat.pos
      have hbig := hat.big
      have HSI := Lib.hid hat.siz
      have hsz := (sized_iff _).1 hat.siz
      have hmn := many_snoc l k hlt
      have hps := HPS.out k hlt
      have hpl := HPL.out k
      rw [List.length_take, Nat.min_eq_left (by omega)] at hpl
      obtain ⟨b, o, cap', hve, _, _, _, _⟩ := SlR.pos HL.out (by decide) (by omega)
      simp only [Value.slice.injEq, true_and] at hve
      obtain ⟨rfl, rfl⟩ := hve
      have hrow := flat_at ruC 3 (by decide) HL.out (fun b hb => rfl) hlt
      obtain ⟨r, hr⟩ : ∃ r, l[k] = r := ⟨_, rfl⟩
      rw [hr] at hbig HSI hsz hmn hps hrow
      clear hr hat
      obtain ⟨a, s, c⟩ := r
      simp only at hbig hsz hmn
      have HMN := Lib.hid hmn
      have HPN := Lib.hid hps
      clear hmn hps
      generalize many (l.take k) = mk at *
      generalize piecesR (l.take k) i j = D at *
      obtain ⟨i', hi'⟩ : ∃ i', i - mk = i' := ⟨_, rfl⟩
      obtain ⟨j', hj'⟩ : ∃ j', j - mk = j' := ⟨_, rfl⟩
      rw [hi', hj'] at HPN ⊢
      obtain ⟨f, hf⟩ : ∃ f, max i' 0 = f := ⟨_, rfl⟩
      obtain ⟨t, ht⟩ : ∃ f, min j' c = f := ⟨_, rfl⟩
      have hpc : pcR (a, s, c) i' j' = if f < t then [(a + s * f, s, t - f)] else [] := by unfold pcR; simp only [hf, ht]
      rw [hpc] at HPN
      clear hpc
      have HI := Lib.hid hi'
      have HJ := Lib.hid hj'
      have HF := Lib.hid hf
      have HT := Lib.hid ht
      have hfb : 0 ≤ f ∧ f ≤ 2000 := by omega
      have htb : -2000 ≤ t ∧ t ≤ c := by omega
      have hij : -2000 ≤ i' ∧ i' ≤ 2000 ∧ -2000 ≤ j' ∧ j' ≤ 2000 := by omega
      have HIJ := Lib.hid hij
      clear hi' hj' hf ht hij
      go_upto_region 7 with (first
        | (refine Agg.gLoad 3 [.int .i64 a, .int .i64 s, .int .i64 c] rfl rfl rfl (by decide +kernel) rfl hrow ?_; simp only [Act.put, List.setIfInBounds_toArray, List.set_cons_succ, List.set_cons_zero])
        | (refine Agg.allocRow 31 #[.int .i64 0, .int .i64 0, .int .i64 0] rfl rfl (by kernel_rfl) ?_; simp only [Act.put, List.setIfInBounds_toArray, List.set_cons_succ, List.set_cons_zero])
        | (refine Agg.gStoreNew 3 [.int .i64 a, .int .i64 s, .int .i64 c] rfl rfl rfl rfl rfl rfl (by decide +kernel) rfl rfl rfl ?_; simp only [Act.put]))
      clear hrow
      refine Agg.wp_at fun w21 hw21 => ?_
      have hb : Below wA.heap.size wA w21 := by rw [hw21.out]; repeat (first | exact Below.refl _ _ | refine Agg.bel_drew ?_ | refine Agg.bel_alloc ?_ _)
      replace HB := Lib.hid (HB.out.trans (hb.mono HB.out.size))
      replace HL := Lib.hid (HL.out.keep hb)
      replace HBK := Lib.hid (HBK.out.keep hb)
      clear hb
      have HX : Hid (Blk w21 wA.heap.size 31 [.int .i64 a, .int .i64 s, .int .i64 c]) := by show Blk _ _ _ _; rw [hw21.out]; exact Blk.new wA 31 #[.int .i64 a, .int .i64 s, .int .i64 c]
      clear hw21
      have HGX : Hid (wA.heap.size ≠ g) := Lib.hid (by have := HBKA.out.lt; omega)
      generalize wA.heap.size = gx at *
      refine Agg.chainR 8 (by kernel_rfl) (by kernel_rfl) ?_
      simp only [List.take_succ_cons, List.take_zero, List.drop_succ_cons, List.drop_zero]
      refine Agg.chMove rfl rfl rfl rfl ?_
      refine Agg.chMax2 f HF.out rfl rfl rfl rfl rfl ?_
      refine Agg.chMove rfl rfl rfl rfl ?_
      refine Agg.chFA fo_fo_Run_2 rfl rfl rfl rfl ?_
      refine Agg.chLoadB HX.out (by decide +kernel) rfl rfl (by rfl) rfl rfl ?_
      refine Agg.chMin2 t HT.out rfl rfl rfl rfl rfl ?_
      refine Agg.chAssign rfl rfl rfl rfl ?_
      refine Agg.chAssign rfl rfl rfl rfl ?_
      refine Agg.chEnd ?_
      intro vs w22 hb _
      refine Agg.wpNil ?_
      simp only [List.reverse, List.reverseAux, Agg.fill, List.set_cons_succ, List.set_cons_zero]
      replace HB := Lib.hid (HB.out.trans (hb.mono HB.out.size))
      replace HL := Lib.hid (HL.out.keep hb)
      replace HBK := Lib.hid (HBK.out.keep hb)
      replace HX := Lib.hid (HX.out.keep hb)
      clear hb
      obtain ⟨e1, e2, e3, e4⟩ := HIJ.out
      obtain ⟨z1, z2, z3, z4, z5, z6⟩ := hsz
      have hdl : (D.length : Int) ≤ k := by omega
      have HFL : Hid ((D.flatMap ruC).length = D.length * 3) := Lib.hid (flat_len ruC 3 D (fun _ _ => rfl))
      have hSl : 3 ≤ S.length := by have h := HLN.out; rw [List.length_append, HFL.out] at h; omega
      by_cases hc : f < t
      · have hsh := sized_here HSI.out (n := f.toNat) (by omega)
        rw [show ((f.toNat : Nat) : Int) = f by omega] at hsh
        obtain ⟨y1, y2, y3, y4⟩ := hsh
        rw [if_pos hc] at HPN
        go_upto_region 9 with (fail)
        refine Agg.listR 16 (by kernel_rfl) ?_
        simp only [List.take_succ_cons, List.take_zero, List.drop_succ_cons, List.drop_zero]
        refine Agg.chMove rfl rfl rfl rfl ?_
        refine Agg.chMove rfl rfl rfl rfl ?_
        refine Agg.chFA (by first | exact fo_fo_Run_0 | exact fo_fo_Row_0 | exact fo_fo_Open_0) rfl rfl rfl rfl ?_
        refine Agg.chLoadB HX.out (by decide +kernel) rfl rfl (by rfl) rfl rfl ?_
        refine Agg.chFA (by first | exact fo_fo_Run_1 | exact fo_fo_Row_1) rfl rfl rfl rfl ?_
        refine Agg.chLoadB HX.out (by decide +kernel) rfl rfl (by rfl) rfl rfl ?_
        refine Agg.chMove rfl rfl rfl rfl ?_
        refine Agg.chAr64 rfl rfl rfl rfl (by omega) (by omega) rfl rfl ?_
        refine Agg.chAr64 rfl rfl rfl rfl (by omega) (by omega) rfl rfl ?_
        refine Agg.chFA (by first | exact fo_fo_Run_1 | exact fo_fo_Row_1) rfl rfl rfl rfl ?_
        refine Agg.chLoadB HX.out (by decide +kernel) rfl rfl (by rfl) rfl rfl ?_
        refine Agg.chMove rfl rfl rfl rfl ?_
        refine Agg.chMove rfl rfl rfl rfl ?_
        refine Agg.chAr64 rfl rfl rfl rfl (by omega) (by omega) rfl rfl ?_
        refine Agg.chBuild (v := .agg (ruC (a + s * f, s, t - f)).toArray) rfl rfl rfl rfl (fun W => build_pc (a + s * f) s (t - f) W) ?_
        refine Agg.chIA ti24 (by omega) (by omega) rfl rfl rfl rfl rfl ?_
        refine Agg.chEnd ?_
        intro vs w23 hb hf
        simp only [List.reverse, List.reverseAux, Agg.Facts] at hf
        obtain _ := hf
        simp only [List.reverse, List.reverseAux, Agg.fill, List.set_cons_succ, List.set_cons_zero]
        have hbk := HBK.out.keep hb
        have hbx := HX.out.keep hb
        have hbb := HB.out.trans (hb.mono HB.out.size)
        have hll := SlR.keep HL.out hb
        have hfit : 0 + (D.length : Int).toNat * 3 + 3 ≤ (D.flatMap ruC ++ S).length := by rw [HLN.out]; omega
        go_upto_region 11 with (refine Agg.gStoreMid 3 (0 + (D.length : Int).toNat * 3) (ruC (a + s * f, s, t - f)) hbk rfl rfl rfl rfl rfl (by decide +kernel) rfl hfit (by simp [ruC, Value.oneCell']) (fun w9 hb9 hg9 => ?_))
        rw [spliced_next D S _ _ (by simp)] at hb9
        have hX9 := hbx.far' hg9 HGX.out
        have hB9 := hbb.trans (grown_below hg9 hbb.size (fun j hj => by cases hj; exact Nat.le_of_eq HG.out.1))
        replace HB := Lib.hid hB9
        replace HBK := Lib.hid hb9
        replace HX := Lib.hid hX9
        clear hb hbk hbx hbb hll hfit hX9 hB9 hb9 hg9
        have cx := HX.out.cell 2
        simp only [List.getElem?_cons_succ, List.getElem?_cons_zero] at cx
        go_quiet (fail)
        clear cx
        have hb := bel_drewN (Below.refl w9.heap.size w9) nq
        replace HB := Lib.hid (HB.out.trans (hb.mono HB.out.size))
        replace HBK := Lib.hid (HBK.out.keep hb)
        clear hb
        go_wp2_with fail
        exact ⟨⟨k + 1, S.drop 3, by omega, by go_num, by rw [HMN.out, ← HI.out]; congr 1; omega, by rw [HMN.out, ← HJ.out]; congr 1; omega, by rw [HPN.out, List.length_append]; rfl, HB.out, by rw [HPN.out]; exact HBK.out, by
          rw [HPN.out, List.flatMap_append, List.append_assoc, List.length_append, HFL.out]
          have h := HLN.out
          rw [List.length_append, HFL.out] at h
          simp [ruC]; omega⟩, by simp [intOf]; omega⟩
      · rw [if_neg hc, List.append_nil] at HPN
        go_upto_region 11 with (fail)
        have cx := HX.out.cell 2
        simp only [List.getElem?_cons_succ, List.getElem?_cons_zero] at cx
        go_quiet (fail)
        clear cx
        have hb := bel_drewN (Below.refl w22.heap.size w22) nq
        replace HB := Lib.hid (HB.out.trans (hb.mono HB.out.size))
        replace HBK := Lib.hid (HBK.out.keep hb)
        clear hb
        go_wp2_with fail
        exact ⟨⟨k + 1, S, by omega, by go_num, by rw [HMN.out, ← HI.out]; congr 1; omega, by rw [HMN.out, ← HJ.out]; congr 1; omega, by rw [HPN.out], HB.out, by rw [HPN.out]; exact HBK.out, by rw [HPN.out]; exact HLN.out⟩, by simp [intOf]; omega⟩
    · obtain rfl : k = l.length := by omega
      rw [List.take_length] at HBK HLN ⊢
      rw [HRR.out] at HBK HLN ⊢
      have hpl := HPL.out l.length
      rw [List.take_length, HRR.out] at hpl
      have HPQ : Hid (R.length ≤ l.length) := Lib.hid hpl
      have hpq : (R.length : Int) ≤ l.length := by omega
      clear hpl
      obtain ⟨n, hn⟩ : ∃ n, R.length = n := ⟨_, rfl⟩
      rw [hn] at hpq ⊢
      have HNN := Lib.hid hn
      clear hn
      go_wp2_with fail
      go_ret
      exact ⟨_, rfl, blk_sl n n HBK.out HNN.out (Nat.le_refl _) (by have := HPQ.out; have := HNN.out; unfold maxLen; omega), HB.out⟩
end Go.Proofs.Ytpligbfajnjklaa
end
section
/-
  THE WALKS OF LAYER 7 (runs): Cut, Pieces, Join.
-/
namespace Go.Proofs.Ytpligbfajnjklaa
open Go.ChangeShapes Go.WideShapes Go.ChangeAt Go.RowKit Agg Pg Ru

def placedP (l : List Rn) (i j : Int) : Int := if risesB l then (if i < 0 ∨ j ≤ i ∨ many l < j then 2 else 0) else 170
theorem placed_any (l : List Rn) (v : Value) (i j : Int) (w : World) (hl : Rus w v l) (hw : ∀ r ∈ l, Rw r) (q : Int) (hq : placedP l i j = q) :
    Calls Try.prog 44 #[v, .int .i64 i, .int .i64 j] w fun e w' => e = .returned (.int .i64 q) ∧ Below w.heap.size w w' := by
  obtain ⟨x, cap, rfl, _⟩ := SlR.shape hl
  have HL := Lib.hid hl
  have HW := Lib.hid hw
  obtain ⟨rb, hrb⟩ : ∃ b, risesB l = b := ⟨_, rfl⟩
  have HRB := Lib.hid hrb
  unfold placedP at hq
  rw [hrb] at hq
  have HQ := Lib.hid hq
  clear hl hw hrb hq
  have HB := Lib.hid (Below.refl w.heap.size w)
  go_enter Try.func44, Try.ntmps44
  go_wp2_with fail
  refine (rises_R HL.out HW.out).mono ?_
  rintro e w1 ⟨rfl, hb⟩
  replace HB := Lib.hid (HB.out.trans (hb.mono HB.out.size))
  replace HL := Lib.hid (HL.out.keep hb)
  clear hb
  rw [HRB.out]
  cases rb
  · have h := HQ.out
    rw [if_neg (by decide)] at h
    subst h
    go_wp2_with fail
    go_ret
    exact ⟨rfl, HB.out⟩
  · have h := HQ.out
    rw [if_pos rfl] at h
    have HQ2 := Lib.hid h
    clear h HQ
    by_cases h1 : i < 0
    · have h := HQ2.out
      rw [if_pos (.inl h1)] at h
      subst h
      clear HQ2
      go_wp2_with fail
      go_ret
      exact ⟨rfl, HB.out⟩
    · have h := HQ2.out
      by_cases h2 : i ≥ j
      · rw [if_pos (.inr (.inl h2))] at h
        subst h
        clear HQ2
        go_wp2_with fail
        go_ret
        exact ⟨rfl, HB.out⟩
      · have h3 := HQ2.out
        clear h
        go_wp2_with fail
        refine (many_any l _ w1 HL.out HRB.out).mono ?_
        rintro e w2 ⟨rfl, hb⟩
        replace HB := Lib.hid (HB.out.trans (hb.mono HB.out.size))
        replace HL := Lib.hid (HL.out.keep hb)
        clear hb
        by_cases hm : j > many l
        · have h := HQ2.out
          rw [if_pos (.inr (.inr hm))] at h
          subst h
          clear HQ2 h3
          go_wp2_with fail
          go_ret
          exact ⟨rfl, HB.out⟩
        · have h := HQ2.out
          rw [if_neg (by omega)] at h
          subst h
          clear HQ2 h3
          go_wp2_with fail
          go_ret
          exact ⟨rfl, HB.out⟩
/-- the runs of some places -/
theorem cut_facts {l : List Rn} {i j : Int} (h : placedP l i j = 0) : risesB l = true ∧ 0 ≤ i ∧ i < j ∧ j ≤ many l ∧ many l ≤ 256 ∧ risingB (times (piecesR l i j)) = true ∧ times (piecesR l i j) = sl (times l) i j ∧ ∀ r ∈ piecesR l i j, sized r = true := by
  unfold placedP at h
  cases hb : risesB l with
  | false => rw [hb, if_neg (by decide)] at h; cases h
  | true =>
    rw [hb, if_pos rfl] at h
    by_cases hc : i < 0 ∨ j ≤ i ∨ many l < j
    · rw [if_pos hc] at h; cases h
    · have hml := times_len hb
      have he := rises_ends hb
      have ht := times_pieces l i j (fun r hr => by have := (sized_iff r).1 (he.1 r hr).1; omega)
      have hr := rising_sl (times_rising hb) (i := i) (j := j) (by omega) (by omega) (by omega)
      exact ⟨rfl, by omega, by omega, by omega, hml.2, by rw [ht]; exact hr.1, ht, pieces_sized l i j he.1⟩
/-- the runs of times, in memory of their own, or none -/
def OfR (base : Nat) (T : List Int) (q : Int) (u : Value) (w : World) : Prop := if q = 0 then w.ownsRow base 31 3 u (ofR T).length ((ofR T).flatMap ruC) else u = .slice none 0 0
def PcR (P : List Rn) (q : Int) (u : Value) (w : World) : Prop := if q = 0 then Rus w u P else u = .slice none 0 0
theorem OfR.yes {base : Nat} {T : List Int} {u : Value} {w : World} : OfR base T 0 u w ↔ w.ownsRow base 31 3 u (ofR T).length ((ofR T).flatMap ruC) := by unfold OfR; rw [if_pos rfl]
theorem OfR.no {base : Nat} {T : List Int} {q : Int} {u : Value} {w : World} (h : q ≠ 0) : OfR base T q u w ↔ u = .slice none 0 0 := by unfold OfR; rw [if_neg h]
theorem PcR.yes {P : List Rn} {u : Value} {w : World} : PcR P 0 u w ↔ Rus w u P := by unfold PcR; rw [if_pos rfl]
theorem PcR.no {P : List Rn} {q : Int} {u : Value} {w : World} (h : q ≠ 0) : PcR P q u w ↔ u = .slice none 0 0 := by unfold PcR; rw [if_neg h]
set_option maxHeartbeats 1000000 in
theorem cut_any (l : List Rn) (v : Value) (i j : Int) (w : World) (hl : Rus w v l) (hw : ∀ r ∈ l, Rw r) (q : Int) (hq : placedP l i j = q) :
    Calls Try.prog 31 #[v, .int .i64 i, .int .i64 j] w fun e w' => ∃ u, e = .returned (.tuple #[u, .int .i64 q]) ∧ OfR w.heap.size (sl (times l) i j) q u w' ∧ Below w.heap.size w w' := by
  obtain ⟨x, cap, rfl, _⟩ := SlR.shape hl
  have HL := Lib.hid hl
  have HW := Lib.hid hw
  have HQ := Lib.hid hq
  clear hl hw hq
  have HB := Lib.hid (Below.refl w.heap.size w)
  go_enter Try.func31, Try.ntmps31
  go_wp2_with fail
  refine (placed_any l _ i j w HL.out HW.out q HQ.out).mono ?_
  rintro e w1 ⟨rfl, hb⟩
  replace HB := Lib.hid (HB.out.trans (hb.mono HB.out.size))
  replace HL := Lib.hid (HL.out.keep hb)
  clear hb
  by_cases h0 : q = 0
  · subst h0
    obtain ⟨f1, f2, f3, f4, f5, f6, f7, f8⟩ := cut_facts HQ.out
    have HF1 := Lib.hid f1
    have HF6 := Lib.hid f6
    have HF7 := Lib.hid f7
    have HF8 := Lib.hid f8
    clear f1 f6 f7 f8
    go_wp2_with fail
    refine (pieces_any l _ i j w1 (by omega) (by omega) HL.out HF1.out).mono ?_
    rintro e w2 ⟨u, rfl, h1, h2⟩
    have HP := Lib.hid h1
    have HB2 := Lib.hid (HB.out.trans (h2.mono HB.out.size))
    obtain ⟨ux, uc, rfl, _, _⟩ := SlR.shape h1
    clear h1 h2
    go_wp2_with fail
    refine (laidR_any _ _ w2 HP.out HF8.out HF6.out).mono ?_
    rintro e w3 ⟨u, rfl, h1, h2⟩
    have HO := Lib.hid (own_base h1 HB2.out.size)
    have HB3 := Lib.hid (HB2.out.trans (h2.mono HB2.out.size))
    obtain ⟨ux, uc, rfl, _, _⟩ := (ownSl h1).shape
    clear h1 h2
    go_wp2_with fail
    go_ret2
    exact ⟨_, rfl, OfR.yes.2 (by rw [← HF7.out]; exact HO.out), HB3.out⟩
  · have h0b : (q != 0) = true := by simpa using h0
    go_wp2_with fail
    go_ret2
    exact ⟨_, rfl, (OfR.no h0).2 rfl, HB.out⟩
set_option maxHeartbeats 1000000 in
theorem piecesX_any (l : List Rn) (v : Value) (i j : Int) (w : World) (hl : Rus w v l) (hw : ∀ r ∈ l, Rw r) (q : Int) (hq : placedP l i j = q) :
    Calls Try.prog 32 #[v, .int .i64 i, .int .i64 j] w fun e w' => ∃ u, e = .returned (.tuple #[u, .int .i64 q]) ∧ PcR (piecesR l i j) q u w' ∧ Below w.heap.size w w' := by
  obtain ⟨x, cap, rfl, _⟩ := SlR.shape hl
  have HL := Lib.hid hl
  have HW := Lib.hid hw
  have HQ := Lib.hid hq
  clear hl hw hq
  have HB := Lib.hid (Below.refl w.heap.size w)
  go_enter Try.func32, Try.ntmps32
  go_wp2_with fail
  refine (placed_any l _ i j w HL.out HW.out q HQ.out).mono ?_
  rintro e w1 ⟨rfl, hb⟩
  replace HB := Lib.hid (HB.out.trans (hb.mono HB.out.size))
  replace HL := Lib.hid (HL.out.keep hb)
  clear hb
  by_cases h0 : q = 0
  · subst h0
    obtain ⟨f1, f2, f3, f4, f5, f6, f7, f8⟩ := cut_facts HQ.out
    have HF1 := Lib.hid f1
    clear f1 f6 f7 f8
    go_wp2_with fail
    refine (pieces_any l _ i j w1 (by omega) (by omega) HL.out HF1.out).mono ?_
    rintro e w2 ⟨u, rfl, h1, h2⟩
    have HP := Lib.hid h1
    have HB2 := Lib.hid (HB.out.trans (h2.mono HB.out.size))
    obtain ⟨ux, uc, rfl, _, _⟩ := SlR.shape h1
    clear h1 h2
    go_wp2_with fail
    go_ret2
    exact ⟨_, rfl, PcR.yes.2 HP.out, HB2.out⟩
  · have h0b : (q != 0) = true := by simpa using h0
    go_wp2_with fail
    go_ret2
    exact ⟨_, rfl, (PcR.no h0).2 rfl, HB.out⟩
end Go.Proofs.Ytpligbfajnjklaa
end
