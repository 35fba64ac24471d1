/-
  THE WALKS OF LAYER 7 (runs): the document's pieces.
-/
import Derived.Test.YtpligbfajnjklaaRuX
namespace Go.Proofs.Ytpligbfajnjklaa
open Go.ChangeShapes Go.WideShapes Go.ChangeAt Go.RowKit Agg Pg Ru

theorem build_run1 (s : Int) (w : World) : (Instr.build 31 #[(1, .int .i64 s)]).run Try.prog w = .ok (.agg #[.int .i64 0, .int .i64 s, .int .i64 0]) w := by simp [go_sem]
set_option maxHeartbeats 4000000 in
set_option maxRecDepth 100000 in
theorem rPieces_any (l : List Rn) (v : Value) (i j : Int) (w : World) (hi : 0 ≤ i ∧ i ≤ 1000) (hj : 0 ≤ j ∧ j ≤ 1000) (hl : Rus w v l) (hr : risesB l = true) :
    Calls Try.prog 34 #[v, .int .i64 i, .int .i64 j] w fun e w' => ∃ u, e = .returned u ∧ OwnV w.heap.size (piecesR l i j) u w' ∧ Below w.heap.size w w' := by
  obtain ⟨x, cap, rfl, _, _⟩ := SlR.shape hl
  have HL0 := Lib.hid hl
  have hln : l.length ≤ 256 := ((rises_iff l).1 hr).2.1
  have HR := Lib.hid hr
  have HSZ := Lib.hid (rises_ends hr).1
  have HPS := Lib.hid (fun k hk => pieces_snoc l k hk i j)
  have HPL := Lib.hid (fun k => pieces_len (l.take k) i j)
  obtain ⟨R, hR⟩ : ∃ R, piecesR l i j = R := ⟨_, rfl⟩
  have HRR := Lib.hid hR
  rw [hR]
  clear hl hr hR
  have HB := Lib.hid (Below.refl w.heap.size w)
  go_enter Try.func34, Try.ntmps34
  go_wp2_with fail
  go_loopw [7, 8, 9] (fun s7 s8 s9 wr => ∃ k : Nat, k ≤ l.length ∧ s9 = .int .i64 k ∧ s8 = .int .i64 (many (l.take k)) ∧ wr.ownsRow w.heap.size 31 3 s7 (piecesR (l.take k) i j).length ((piecesR (l.take k) i j).flatMap ruC) ∧ Below w.heap.size w wr) (fun _ _ s9 _ => l.length - (intOf s9).toNat)
  case atStart => exact ⟨0, by omega, rfl, by simp [many], by simpa [piecesR] using World.ownsRow_nil _ _ _ _, HB.out⟩
  case round =>
    obtain ⟨k, hk, rfl, rfl, ho, hb⟩ := hrel
    have HO := Lib.hid ho
    replace HB := Lib.hid hb
    have HL := Lib.hid (SlR.keep HL0.out hb)
    obtain ⟨ux, uc, rfl, _, _⟩ := (ownSl ho).shape
    clear ho hb
    obtain ⟨wA, hwA⟩ : ∃ x, x = wr := ⟨_, rfl⟩
    subst hwA
    by_cases hlt : k < l.length
    · have hat := at_rises HR.out hlt
      have hpos := hat.pos
      have hbig := hat.big
      have HSI := Lib.hid hat.siz
      have hsz := (sized_iff _).1 hat.siz
      have hmn := many_snoc l k hlt
      have hps := HPS.out k hlt
      have hpl := HPL.out k
      rw [List.length_take, Nat.min_eq_left (by omega)] at hpl
      obtain ⟨b, o, cap', hve, _, _, _, _⟩ := SlR.pos HL.out (by decide) (by omega)
      simp only [Value.slice.injEq, true_and] at hve
      obtain ⟨rfl, rfl⟩ := hve
      have hcells := fun W (hW : Below w.heap.size w W) => flat_at ruC 3 (by decide) (SlR.keep HL0.out hW) (fun b hb => rfl) hlt
      obtain ⟨r, hr⟩ : ∃ r, l[k] = r := ⟨_, rfl⟩
      rw [hr] at hbig HSI hsz hmn hps hcells
      clear hr hat
      obtain ⟨a, s, c⟩ := r
      simp only at hbig hsz hmn
      have HCE : Hid (∀ W, Below w.heap.size w W → W.cell? ⟨b, o + k * 3, none⟩ = some (.int .i64 a) ∧ W.cell? ⟨b, o + k * 3 + 1, none⟩ = some (.int .i64 s) ∧ W.cell? ⟨b, o + k * 3 + 2, none⟩ = some (.int .i64 c)) := Lib.hid (fun W hW => by
        have h := hcells W hW
        simp only [Int.toNat_natCast] at h
        exact ⟨by simpa using h 0 _ rfl, h 1 _ rfl, h 2 _ rfl⟩)
      have HMN := Lib.hid hmn
      have HPN := Lib.hid hps
      clear hmn hps hcells
      generalize many (l.take k) = mk at *
      generalize piecesR (l.take k) i j = D at *
      obtain ⟨i', hi'⟩ : ∃ i', i - mk = i' := ⟨_, rfl⟩
      obtain ⟨j', hj'⟩ : ∃ j', j - mk = j' := ⟨_, rfl⟩
      rw [hi', hj', pAcc_end] at HPN
      simp only at HPN
      have HIJ := Lib.hid (And.intro hi' hj')
      have ei : i = i' + mk := by omega
      have ej : j = j' + mk := by omega
      subst ei
      subst ej
      clear hi' hj'
      obtain ⟨z1, z2, z3, z4, z5, z6⟩ := hsz
      have hc3 := HCE.out wA HB.out
      obtain ⟨c0, c1, c2⟩ := hc3
      have hbd := fun W => build_run1 s W
      have HGO : Hid (Value.ownBlock (.slice ux D.length uc) = none ∨ Value.ownBlock (.slice ux D.length uc) ≠ some wA.heap.size) := Lib.hid (.inr (fun e => by have := (HO.out.lt _ e).2; omega))
      go_upto_region 7 with (first
        | (refine Agg.allocRow 31 #[.int .i64 0, .int .i64 0, .int .i64 0] rfl rfl (by kernel_rfl) ?_; simp only [Act.put, List.setIfInBounds_toArray, List.set_cons_succ, List.set_cons_zero])
        | (refine Agg.gStoreNew 3 [.int .i64 0, .int .i64 s, .int .i64 0] rfl rfl rfl rfl rfl rfl (by decide +kernel) rfl rfl rfl ?_; simp only [Act.put]))
      have hbA : Below wA.heap.size wA (wA.alloc (.cells #[.int .i64 0, .int .i64 s, .int .i64 0] 31)) := (Below.refl _ _).alloc (Nat.le_refl _) _
      have HBX := Lib.hid (Blk.new wA 31 #[.int .i64 0, .int .i64 s, .int .i64 0])
      have HBB := Lib.hid (HB.out.trans (hbA.mono HB.out.size))
      have HOB := Lib.hid (own_keep HO.out hbA)
      have HGW := Lib.hid HB.out.size
      have e0 : pAcc (a, s, c) i' j' 0 = (0, s, 0) := by unfold pAcc; rw [if_neg (by omega)]
      have HE0 := Lib.hid e0
      refine Agg.wp_at fun wB hwB => ?_
      rw [← hwB.out] at HBX HBB HOB
      generalize wA.heap.size = gp at *
      clear e0 hwB hbA hbd c0 c1 c2 HO HB HL
      go_wp2_with fail
      go_loopw [8, 11] (fun s8 s11 wr => ∃ n : Nat, (n : Int) ≤ c ∧ s11 = .int .i64 n ∧ s8 = .int .i64 (mk + n) ∧ Below w.heap.size w wr ∧ Blk wr gp 31 [.int .i64 (pAcc (a, s, c) i' j' n).1, .int .i64 s, .int .i64 (pAcc (a, s, c) i' j' n).2.2] ∧ wr.ownsRow w.heap.size 31 3 (.slice ux D.length uc) D.length (D.flatMap ruC)) (fun _ s11 _ => c.toNat - (intOf s11).toNat)
      case atStart => exact ⟨0, by omega, rfl, by simp, HBB.out, by rw [show ((0 : Nat) : Int) = 0 from rfl, HE0.out]; exact HBX.out, HOB.out⟩
      case round =>
        obtain ⟨n, hn, rfl, rfl, hb, h1, h2⟩ := hrel
        have HB := Lib.hid hb
        have HX := Lib.hid h1
        have HO := Lib.hid h2
        obtain ⟨c0, c1, c2⟩ := HCE.out wr hb
        clear hb h1 h2 HBX HBB HOB
        obtain ⟨wD, hwD⟩ : ∃ x, x = wr := ⟨_, rfl⟩
        subst hwD
        obtain ⟨p, hp⟩ : ∃ p, pAcc (a, s, c) i' j' n = p := ⟨_, rfl⟩
        have hpb : 0 ≤ p.2.2 ∧ p.2.2 ≤ 256 := by rw [← hp]; unfold pAcc; split <;> simp only <;> omega
        obtain ⟨hpb1, hpb2⟩ := hpb
        by_cases hnc : (n : Int) < c
        · have hin := pAcc_in (a, s, c) i' j' n (by omega)
          have hout := pAcc_out (a, s, c) i' j' n (by omega)
          rw [hp] at HX hin hout
          have HIN := Lib.hid hin
          have HOUT := Lib.hid hout
          obtain ⟨pf, ps, pc⟩ := p
          simp only at HX hpb1 hpb2
          have HSH := Lib.hid (sized_here HSI.out hnc)
          clear hin hout hp
          by_cases h1 : mk + (n : Int) ≥ i' + mk
          · by_cases h2 : mk + (n : Int) < j' + mk
            · have hpn := HIN.out (by omega) (by omega)
              simp only at hpn
              have HPX := Lib.hid hpn
              clear hpn HOUT
              have x2 := HX.out.cell 2
              simp only [List.getElem?_cons_succ, List.getElem?_cons_zero] at x2
              by_cases hz : pc = 0
              · subst hz
                have hsn := HSH.out
                rw [Int.mul_comm] at hsn
                obtain ⟨y1, y2, y3, y4⟩ := hsn
                have HL0' : Hid (wD.cell? ⟨b, o + (k : Int).toNat * 3 + 0, none⟩ = some (.int .i64 a)) := Lib.hid c0
                have HL1' : Hid (wD.cell? ⟨b, o + (k : Int).toNat * 3 + 1, none⟩ = some (.int .i64 s)) := Lib.hid c1
                go_upto_region 12 with (fail)
                clear c0 c1 c2 x2
                refine Agg.chainR 14 (by kernel_rfl) (by kernel_rfl) ?_
                simp only [List.take_succ_cons, List.take_zero, List.drop_succ_cons, List.drop_zero]
                refine Agg.chMove rfl rfl rfl rfl ?_
                refine Agg.chMove rfl rfl rfl rfl ?_
                refine Agg.chIA ti24 (by omega) (by omega) rfl rfl rfl rfl rfl ?_
                refine Agg.chFA fo_fo_Run_0 rfl rfl rfl rfl ?_
                refine Agg.chLoad rfl rfl rfl rfl (by decide +kernel) HL0'.out ?_
                refine Agg.chMove rfl rfl rfl rfl ?_
                refine Agg.chMove rfl rfl rfl rfl ?_
                refine Agg.chMove rfl rfl rfl rfl ?_
                refine Agg.chIA ti24 (by omega) (by omega) rfl rfl rfl rfl rfl ?_
                refine Agg.chFA (by first | exact fo_fo_Run_1 | exact fo_fo_Row_1) rfl rfl rfl rfl ?_
                refine Agg.chLoad rfl rfl rfl rfl (by decide +kernel) HL1'.out ?_
                refine Agg.chAr64 rfl rfl rfl rfl (by omega) (by omega) rfl rfl ?_
                refine Agg.chAr64 rfl rfl rfl rfl (by omega) (by omega) rfl rfl ?_
                refine Agg.chFA fo_fo_Run_0 rfl rfl rfl rfl ?_
                refine Agg.chEnd ?_
                intro vs w41 hb hf
                simp only [List.reverse, List.reverseAux, Agg.Facts] at hf
                obtain _ := hf
                simp only [List.reverse, List.reverseAux, Agg.fill, List.set_cons_succ, List.set_cons_zero]
                have hx3 := HX.out.keep hb
                have ho3 := own_keep HO.out hb
                have hb3 := HB.out.trans (hb.mono HB.out.size)
                have HX3 := Lib.hid hx3
                have HO3 := Lib.hid ho3
                have HB3 := Lib.hid hb3
                clear hb ho3 hb3 HX HO HB HL0' HL1'
                go_wp2_with (refine Agg.gStoreCell 0 (.int .i64 (a + (n : Int) * s)) hx3 rfl rfl rfl rfl rfl (by kernel_rfl) rfl (by simp) rfl (fun w5 hb5 hg5 => ?_))
                refine Agg.noP ?_
                simp only [spliced, List.take_succ_cons, List.take_zero, List.drop_succ_cons, List.drop_zero, List.drop_nil, List.length_cons, List.length_nil, List.cons_append, List.nil_append] at hb5
                have hO5 := HO3.out.kept hg5 HGO.out
                have hB5 := HB3.out.trans (grown_below hg5 HB3.out.size (fun j hj => by cases hj; exact HGW.out))
                have HX5 := Lib.hid hb5
                have HO5 := Lib.hid hO5
                have HB5 := Lib.hid hB5
                have hx5 := hb5
                have y2 := HX5.out.cell 2
                simp only [List.getElem?_cons_succ, List.getElem?_cons_zero] at y2
                clear hx3 hb5 hg5 hO5 hB5 HX3 HO3 HB3
                go_wp2_with (refine Agg.gStoreCell 2 (.int .i64 1) hx5 rfl rfl rfl rfl rfl (by kernel_rfl) rfl (by simp) rfl (fun w6 hb6 hg6 => ?_))
                simp only [spliced, List.take_succ_cons, List.take_zero, List.drop_succ_cons, List.drop_zero, List.drop_nil, List.length_cons, List.length_nil, List.cons_append, List.nil_append] at hb6
                have hO6 := HO5.out.kept hg6 HGO.out
                have hB6 := HB5.out.trans (grown_below hg6 HB5.out.size (fun j hj => by cases hj; exact HGW.out))
                exact ⟨⟨n + 1, by omega, by go_num, by congr 1; omega, hB6, by rw [show ((n + 1 : Nat) : Int) = (n : Int) + 1 from rfl, HPX.out, if_pos trivial]; exact hb6, hO6⟩, by simp [intOf]; omega⟩
              · have hzb : (pc == 0) = false := by simpa using hz
                have hx3 := HX.out
                go_wp2_with (refine Agg.gStoreCell 2 (.int .i64 (pc + 1)) hx3 rfl rfl rfl rfl rfl (by kernel_rfl) rfl (by simp) rfl (fun w5 hb5 hg5 => ?_))
                simp only [spliced, List.take_succ_cons, List.take_zero, List.drop_succ_cons, List.drop_zero, List.drop_nil, List.length_cons, List.length_nil, List.cons_append, List.nil_append] at hb5
                have hO5 := HO.out.kept hg5 HGO.out
                have hB5 := HB.out.trans (grown_below hg5 HB.out.size (fun j hj => by cases hj; exact HGW.out))
                exact ⟨⟨n + 1, by omega, by go_num, by congr 1; omega, hB5, by rw [show ((n + 1 : Nat) : Int) = (n : Int) + 1 from rfl, HPX.out, if_neg hz]; exact hb5, hO5⟩, by simp [intOf]; omega⟩
            · have hpn := HOUT.out (by omega)
              have HPX := Lib.hid hpn
              clear hpn HIN
              go_wp2_with fail
              exact ⟨⟨n + 1, by omega, by go_num, by congr 1; omega, HB.out, by rw [show ((n + 1 : Nat) : Int) = (n : Int) + 1 from rfl, HPX.out]; exact HX.out, HO.out⟩, by simp [intOf]; omega⟩
          · have hpn := HOUT.out (by omega)
            have HPX := Lib.hid hpn
            clear hpn HIN
            go_wp2_with fail
            exact ⟨⟨n + 1, by omega, by go_num, by congr 1; omega, HB.out, by rw [show ((n + 1 : Nat) : Int) = (n : Int) + 1 from rfl, HPX.out]; exact HX.out, HO.out⟩, by simp [intOf]; omega⟩
        · have hcn : (n : Int) = c := by omega
          rw [hcn] at hp
          rw [hp] at HPN
          rw [hcn, hp] at HX
          obtain ⟨pf, ps, pc⟩ := p
          have hps : ps = s := by have h := congrArg (fun z => z.2.1) hp; simp only at h; rw [← h]; unfold pAcc; split <;> rfl
          subst hps
          simp only at HX HPN hpb1 hpb2
          have x0 := HX.out.cell 0
          have x1 := HX.out.cell 1
          have x2 := HX.out.cell 2
          simp only [List.getElem?_cons_succ, List.getElem?_cons_zero] at x0 x1 x2
          clear hp
          by_cases hpos' : pc > 0
          · rw [if_pos hpos'] at HPN
            have hx3 := HX.out
            have hbA : Below wD.heap.size wD (wD.alloc (.cells #[.int .i64 pf, .int .i64 ps, .int .i64 pc] 31)) := (Below.refl _ _).alloc (Nat.le_refl _) _
            have ho3 := own_keep HO.out hbA
            have hsl : SlR (wD.alloc (.cells #[.int .i64 pf, .int .i64 ps, .int .i64 pc] 31)) (.slice (some ⟨wD.heap.size, 0, none⟩) 1 1) 3 1 (ruC (pf, ps, pc)) := NewSl.sl (b0 := 0) (e := 31) ⟨_, rfl, Nat.zero_le _, Blk.new wD 31 (ruC (pf, ps, pc)).toArray⟩ rfl (by unfold maxLen; decide)
            have hsz := (HB.out.trans (hbA.mono HB.out.size)).size
            have HBA := Lib.hid (HB.out.trans (hbA.mono HB.out.size))
            clear x0 x1 hbA
            go_wp2_with (first
              | (refine Agg.gLoadB 3 hx3 rfl rfl rfl rfl (by decide +kernel) ?_; simp only [Act.put, List.setIfInBounds_toArray, List.set_cons_succ, List.set_cons_zero])
              | (refine Agg.gBuildRows ti24 [.tmp 68] [[.int .i64 pf, .int .i64 ps, .int .i64 pc]] rfl 1 rfl rfl rfl (by simp) (by decide) (by decide) ?_; simp only [Act.put, List.setIfInBounds_toArray, List.set_cons_succ, List.set_cons_zero])
              | (refine Agg.append ti24 (.tmp 67) (.tmp 69) rfl rfl w.heap.size (v := .slice ux D.length uc) rfl ho3 rfl hsl (by simp [ruC, Value.oneCell']) (by unfold maxLen; omega) (by omega) hsz ?_; intro v' w4 hC4 hg4 _; simp only [Act.put, List.setIfInBounds_toArray, List.set_cons_succ, List.set_cons_zero]))
            refine ⟨⟨k + 1, by omega, by go_num, by rw [HMN.out, hcn], ?_, HBA.out.trans (grown_below hg4 HBA.out.size (own_block ho3))⟩, by simp [intOf]; omega⟩
            rw [HPN.out, List.length_append, List.flatMap_append]
            simpa using hC4
          · rw [if_neg hpos', List.append_nil] at HPN
            clear x0 x1
            go_wp2_with fail
            exact ⟨⟨k + 1, by omega, by go_num, by rw [HMN.out, hcn], by rw [HPN.out]; exact HO.out, HB.out⟩, by simp [intOf]; omega⟩
    · obtain rfl : k = l.length := by omega
      rw [List.take_length] at HO
      rw [HRR.out] at HO
      have HO2 := Lib.hid HO.out
      clear HO
      rw [List.take_length] at *
      rw [HRR.out] at *
      go_wp2_with fail
      go_ret
      exact ⟨_, rfl, HO2.out, HB.out⟩
end Go.Proofs.Ytpligbfajnjklaa
