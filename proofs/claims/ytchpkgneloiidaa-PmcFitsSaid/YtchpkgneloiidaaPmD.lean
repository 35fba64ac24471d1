/-
  THE WALK OF LAYER 8's STATEMENT PmcLeast.
-/
import Derived.Test.YtchpkgneloiidaaPmC
namespace Agg
open Go Go.RowKit
/-- a slice of a slice, from a place on -/
theorem gSliceFrom {P : Program} {w : World} {o : Oper} {Q : Exit → Act → World → Prop} {ops : Array Oper} {rest : List Oper} {a : Act} {t : TypeId} {x y : Operand} {u v : Value} (r : Value) (hg : o.guard = none) (ho : o.op = .slice t x (some y) none none) (hx : a.eval x = u) (hy : a.eval y = v) (hr : ∀ w2, (Instr.sliceAt t u (some v) none none).run P w2 = .ok r w2)
    (h : wpList P ops Q rest (a.put o.dst r) w) : wpList P ops Q (o :: rest) a w := by
  refine Agg.run hg r w ?_ h
  simp only [execOp, ho, Option.map_some, Option.map_none, hx, hy, hr, Sem.run_bind, Result.andThen_ok, Sem.run_pure]
end Agg
namespace Pm
open Go Go.RowKit Agg
/-- what is left of bands -/
theorem slice_rest {P : Program} {w : World} {t e : TypeId} {bytes : Nat} {z : Value} (T : TI P t e 3 bytes z) {x : Option Addr} {n cap : Nat} {R : List Bd} (h : Bds w (.slice x n cap) R) (k : Nat) (hk : k ≤ R.length) :
    ∃ y c, (∀ w2, (Instr.sliceAt t (.slice x n cap) (some (.int .i64 (k : Int))) none none).run P w2 = .ok (.slice y (R.length - k) c) w2) ∧ Bds w (.slice y (R.length - k) c) (R.drop k) := by
  obtain ⟨_, _, e, hc1, hcm⟩ := SlR.shape h
  cases e
  obtain ⟨i, hi, hz, hs, hb⟩ := T.info
  have hfl : (R.flatMap bdC).length = R.length * 3 := Pg.flat_len bdC 3 _ (fun _ _ => rfl)
  have hdl : (R.drop k).length = R.length - k := List.length_drop ..
  by_cases hn : R.length = 0
  · have hk0 : k = 0 := by omega
    subst hk0
    refine ⟨x, cap, fun w2 => ?_, by simpa using h⟩
    cases x with
    | none => simp [Instr.sliceAt, Instr.slice, Instr.sliceBounds, Instr.sliceBound, run_underlying T.ht, asIntOf, Go.sizeOf, typeInfo, hi]
    | some a =>
      by_cases hc : cap = 0
      · subst hc; simp [Instr.sliceAt, Instr.slice, Instr.sliceBounds, Instr.sliceBound, run_underlying T.ht, asIntOf, Go.sizeOf, typeInfo, hi]
      · simp [Instr.sliceAt, Instr.slice, Instr.sliceBounds, Instr.sliceBound, run_underlying T.ht, asIntOf, Go.sizeOf, typeInfo, hi, hc, Addr.add]
  · obtain ⟨b, o, cap', hve, _, _, _, _⟩ := SlR.pos h (by decide) (by omega)
    simp only [Value.slice.injEq, true_and] at hve
    obtain ⟨rfl, rfl⟩ := hve
    by_cases hc : k < cap
    · refine ⟨_, _, fun w2 => run_slice_from T b o R.length cap k hk hc w2, ?_⟩
      have h2 := bds_part h (i := k) (j := R.length - k) (by omega) (cap - k) (by omega) (by omega)
      rw [List.take_of_length_le (by rw [List.length_drop]; omega)] at h2
      exact h2
    · have hkc : k = cap := by omega
      have hrc : R.length = k := by omega
      subst hkc
      refine ⟨some ⟨b, o, none⟩, 0, fun w2 => ?_, ⟨by rw [Pg.flat_len bdC 3 _ (fun _ _ => rfl)], .inr ⟨_, 0, by rw [hdl], by omega, Nat.zero_le _, fun j u hj => ?_⟩⟩⟩
      · simp [Instr.sliceAt, Instr.slice, Instr.sliceBounds, Instr.sliceBound, run_underlying T.ht, asIntOf, hk, Go.sizeOf, typeInfo, hi]
      · have := (List.getElem?_eq_some_iff.1 hj).1
        rw [Pg.flat_len bdC 3 _ (fun _ _ => rfl), hdl] at this; omega
theorem part_snoc {L : List Bd} {i m n : Nat} {v : Int} (h : Part (L.take i) m) (hn : 1 ≤ n) (hi : i + n ≤ L.length) (ht : Thr ((L.drop i).take n) v) : Part (L.take (i + n)) (m + 1) := by
  have h1 : Part ((L.drop i).take n) 1 := by
    have := Part.cons ((L.drop i).take n) [] 0 v (fun e => by have := congrArg List.length e; rw [List.length_take, List.length_drop, List.length_nil] at this; omega) ht .nil
    rwa [List.append_nil] at this
  have h2 := h.app h1
  rwa [← List.take_add] at h2
end Pm
namespace Go.Proofs.Ytchpkgneloiidaa
open Go.ChangeShapes Go.WideShapes Go.ChangeAt Go.RowKit Agg Pg Pm
attribute [local go_sem] Oper.semAt_some

theorem fo_Piece_0 : Agg.fieldOff Try.prog 56 0 = some 0 := by kernel_rfl
theorem fo_Piece_1 : Agg.fieldOff Try.prog 56 1 = some 1 := by kernel_rfl
theorem tiPc : TI Try.prog 54 56 2 16 (.agg #[.int .i64 0, .int .i64 0]) := ⟨by kernel_rfl, by kernel_rfl, rfl, by decide⟩
theorem good_piece {w : World} {fuel : Nat} {v : Value} (h : Agg.Good Try.prog w fuel 54 [v]) : ∃ l : List (Int × Int), Les w v l := by
  obtain ⟨l, h1, h2, h3⟩ := good_sl (α := Int × Int) Try.underlying54 (sz := 2) (by kernel_rfl) leC (fun _ => True) (fun _ => rfl) (fun fu cs hg => by
    have hf := good_fits fu 5 56 [some .i64, some .i64] cs (by kernel_rfl) hg
    obtain ⟨x, r, rfl, ⟨a, rfl, ha⟩, hf2⟩ := hf.cons
    obtain ⟨x2, r2, rfl, ⟨a2, rfl, ha2⟩, hf3⟩ := hf2.cons
    rw [hf3.nil]
    exact ⟨(a, a2), rfl, trivial⟩) h
  exact ⟨l, h1⟩
set_option maxHeartbeats 4000000 in
set_option maxRecDepth 100000 in
theorem least_walk (l : List Bd) (ps : List (Int × Int)) (v v2 : Value) (w : World) (hl : Bds w v l) (hb2 : Les w v2 ps) :
    Calls Try.prog 7 #[v, v2] w fun e w' => e = .returned (.bool true) ∧ Below w.heap.size w w' := by
  obtain ⟨x, cap, rfl, _⟩ := SlR.shape hl
  obtain ⟨y, cap2, rfl, hcy, hcm⟩ := SlR.shape hb2
  have HL := Lib.hid hl
  have HS := Lib.hid hb2
  have hbl : (ps.length : Int) ≤ 9223372036854775807 := by unfold maxLen at hcm; omega
  clear hl hb2 hcm
  have HB := Lib.hid (Below.refl w.heap.size w)
  go_enter Try.func7, Try.ntmps7
  go_wp2_with fail
  refine (wakes_any w).mono ?_
  rintro e w1 ⟨rfl, hb⟩
  replace HB := Lib.hid (HB.out.trans (hb.mono HB.out.size))
  replace HL := Lib.hid (HL.out.keep hb)
  replace HS := Lib.hid (HS.out.keep hb)
  clear hb
  go_wp2_with fail
  refine (few_any l _ w1 HL.out).mono ?_
  rintro e w2 ⟨u, rfl, hu, hb⟩
  replace HB := Lib.hid (HB.out.trans (hb.mono HB.out.size))
  replace HL := Lib.hid (HL.out.keep hb)
  replace HS := Lib.hid (HS.out.keep hb)
  clear hb
  have HU : Hid (Bds w2 u (few257 l)) := Lib.hid (own_bds hu)
  have hfl := few_le l
  clear hu HL
  generalize few257 l = L at *
  obtain ⟨ux, uc, rfl, huc, _⟩ := SlR.shape HU.out
  obtain ⟨q, hq⟩ : ∃ q, checkB L = q := ⟨_, rfl⟩
  have HQ := Lib.hid hq
  clear hq
  go_wp2_with fail
  refine (chkB_any L _ w2 HU.out q HQ.out).mono ?_
  rintro e w3 ⟨rfl, hb⟩
  replace HB := Lib.hid (HB.out.trans (hb.mono HB.out.size))
  replace HU := Lib.hid (HU.out.keep hb)
  replace HS := Lib.hid (HS.out.keep hb)
  clear hb
  cases q
  · go_wp2_with fail
    go_ret
    exact ⟨rfl, HB.out⟩
  · have hck := check_len HQ.out
    have HOK := Lib.hid hck.2.2.2
    have hL2 := hck.2.1
    clear hck
    go_wp2_with fail
    refine (cut_any L _ w3 HU.out true HQ.out).mono ?_
    rintro e w4 ⟨c1, rfl, hc1, hb⟩
    replace HB := Lib.hid (HB.out.trans (hb.mono HB.out.size))
    replace HU := Lib.hid (HU.out.keep hb)
    replace HS := Lib.hid (HS.out.keep hb)
    clear hb
    obtain ⟨c1x, c1c, rfl, _, _⟩ := (ownSl (CutV.yes.1 hc1)).shape
    have HCP := Lib.hid (fun (m : Nat) (hp : Part L m) => cut_least hp HOK.out)
    clear hc1 HOK HQ
    generalize (cut L).length = cn at *
    obtain ⟨wZ, hwZ⟩ : ∃ x, x = w4 := ⟨_, rfl⟩
    subst hwZ
    have HUZ := HU
    have HSZ := HS
    have HBZ := HB
    clear HU HS HB
    go_wp2_with fail
    go_loopw [8, 9, 29] (fun s8 s9 ix wr => ∃ (k i m : Nat) (y : Option Addr) (c : Nat), k ≤ ps.length ∧ ix = .int .i64 k ∧ m ≤ k ∧ s9 = .int .i64 m ∧ i ≤ L.length ∧ Part (L.take i) m ∧ s8 = .slice y (L.length - i) c ∧ Bds wr (.slice y (L.length - i) c) (L.drop i) ∧ Below wZ.heap.size wZ wr) (fun _ _ ix _ => ps.length - (intOf ix).toNat)
    case atStart => exact ⟨0, 0, 0, ux, uc, by omega, rfl, by omega, rfl, by omega, .nil, by simp, by simpa using HUZ.out, Below.refl _ _⟩
    case round =>
      obtain ⟨k, i, m, y2, c2, hk, rfl, hmk, rfl, hi, hp, rfl, hbd, hb⟩ := hrel
      have HP := Lib.hid hp
      have HR := Lib.hid hbd
      have HB2 := Lib.hid hb
      have HB := Lib.hid (HBZ.out.trans (hb.mono HBZ.out.size))
      clear hp hbd hb
      obtain ⟨wA, hwA⟩ : ∃ x, x = wr := ⟨_, rfl⟩
      subst hwA
      have hend : i = L.length → (cn : Int) ≤ m := fun h => by have h2 := HP.out; rw [h, List.take_length] at h2; have := HCP.out m h2; omega
      by_cases hlt : k < ps.length
      · have hS3 := SlR.keep HSZ.out HB2.out
        obtain ⟨b2, o2, cap', hve, _, _, _, _⟩ := SlR.pos hS3 (by decide) (by omega)
        simp only [Value.slice.injEq, true_and] at hve
        obtain ⟨rfl, rfl⟩ := hve
        have hrow := flat_at leC 2 (by decide) hS3 (fun b hb => rfl) hlt
        obtain ⟨⟨z, cv⟩, hr⟩ : ∃ r, ps[k]'hlt = r := ⟨_, rfl⟩
        rw [hr] at hrow
        clear hr hS3
        have HFZ : Hid (From wZ wA) := Lib.hid HB2.out
        clear HB2
        go_upto_region 13 with (first
          | (refine Agg.gLoad 2 [.int .i64 z, .int .i64 cv] rfl rfl rfl (by decide +kernel) rfl hrow ?_; simp only [Act.put, List.setIfInBounds_toArray, List.set_cons_succ, List.set_cons_zero])
          | (refine Agg.allocRow 56 #[.int .i64 0, .int .i64 0] rfl rfl (by kernel_rfl) ?_; simp only [Act.put, List.setIfInBounds_toArray, List.set_cons_succ, List.set_cons_zero])
          | (refine Agg.gStoreNew 2 [.int .i64 z, .int .i64 cv] rfl rfl rfl rfl rfl rfl (by decide +kernel) rfl rfl rfl ?_; simp only [Act.put]))
        clear hrow
        refine Agg.wp_at fun w21 hw21 => ?_
        have hb : Below wA.heap.size wA w21 := by rw [hw21.out]; repeat (first | exact Below.refl _ _ | refine Agg.bel_drew ?_ | refine Agg.bel_alloc ?_ _)
        replace HB := Lib.hid (HB.out.trans (hb.mono HB.out.size))
        replace HR := Lib.hid (HR.out.keep hb)
        replace HFZ := Lib.hid (HFZ.out.keep hb)
        clear hb
        have HX : Hid (Blk w21 wA.heap.size 56 [.int .i64 z, .int .i64 cv]) := by show Blk _ _ _ _; rw [hw21.out]; exact Blk.new wA 56 #[.int .i64 z, .int .i64 cv]
        clear hw21
        generalize wA.heap.size = gx at *
        have hdl : (L.drop i).length = L.length - i := List.length_drop ..
        have hps : ∀ n v, 1 ≤ n → n ≤ L.length - i → Thr ((L.drop i).take n) v → Part (L.take (i + n)) (m + 1) := fun n v h1 h2 h3 => part_snoc HP.out h1 (by omega) h3
        have HPS := Lib.hid hps
        have hdd : ∀ n, (L.drop i).drop n = L.drop (i + n) := fun n => List.drop_drop ..
        have HDD := Lib.hid hdd
        clear hps hdd HP
        by_cases h0 : L.length - i = 0
        · have h1 := hend (by omega)
          have h2 : ((L.length - i : Nat) : Int) == 0 := by simp [h0]
          go_wp2_with fail
          go_ret
          exact ⟨rfl, HB.out⟩
        · have h0b : (((L.length - i : Nat) : Int) == 0) = false := by simp; omega
          obtain ⟨R, hR⟩ : ∃ R, L.drop i = R := ⟨_, rfl⟩
          obtain ⟨rn, hrn⟩ : ∃ n, L.length - i = n := ⟨_, rfl⟩
          rw [hR] at HR HPS HDD hdl
          rw [hrn] at HR HPS hdl h0 h0b ⊢
          subst hdl
          go_upto_region 14 with (fail)
          by_cases hc1 : z < 1
          · refine Agg.chainR 20 (by kernel_rfl) (by kernel_rfl) ?_
            simp only [List.take_succ_cons, List.take_zero, List.drop_succ_cons, List.drop_zero]
            refine Agg.chFA fo_Piece_0 rfl rfl rfl rfl ?_
            refine Agg.chLoadB HX.out (by decide +kernel) rfl rfl (by rfl) rfl rfl ?_
            refine Agg.chLt true (decide_eq_true hc1) rfl rfl rfl rfl rfl ?_
            refine Agg.chMove rfl rfl rfl rfl ?_
            refine Agg.chSkip rfl rfl ?_
            refine Agg.chSkip rfl rfl ?_
            refine Agg.chSkip rfl rfl ?_
            refine Agg.chSkip rfl rfl ?_
            refine Agg.chSkip rfl rfl ?_
            refine Agg.chPick rfl rfl rfl rfl rfl ?_
            refine Agg.chMove rfl rfl rfl rfl ?_
            refine Agg.chSkip rfl rfl ?_
            refine Agg.chSkip rfl rfl ?_
            refine Agg.chSkip rfl rfl ?_
            refine Agg.chSkip rfl rfl ?_
            refine Agg.chSkip rfl rfl ?_
            refine Agg.chSkip rfl rfl ?_
            refine Agg.chSkip rfl rfl ?_
            refine Agg.chSkip rfl rfl ?_
            refine Agg.chPick rfl rfl rfl rfl rfl ?_
            refine Agg.chEnd ?_
            intro vs w22 hb _
            refine Agg.wpNil ?_
            simp only [List.reverse, List.reverseAux, Agg.fill, List.set_cons_succ, List.set_cons_zero]
            replace HB := Lib.hid (HB.out.trans (hb.mono HB.out.size))
            replace HR := Lib.hid (HR.out.keep hb)
            replace HFZ := Lib.hid (HFZ.out.keep hb)
            replace HX := Lib.hid (HX.out.keep hb)
            clear hb
            go_wp2_with fail
            go_ret
            exact ⟨rfl, HB.out⟩
          · by_cases hc2 : z > R.length
            · refine Agg.chainR 20 (by kernel_rfl) (by kernel_rfl) ?_
              simp only [List.take_succ_cons, List.take_zero, List.drop_succ_cons, List.drop_zero]
              refine Agg.chFA fo_Piece_0 rfl rfl rfl rfl ?_
              refine Agg.chLoadB HX.out (by decide +kernel) rfl rfl (by rfl) rfl rfl ?_
              refine Agg.chLt false (decide_eq_false hc1) rfl rfl rfl rfl rfl ?_
              refine Agg.chMove rfl rfl rfl rfl ?_
              refine Agg.chFA fo_Piece_0 rfl rfl rfl rfl ?_
              refine Agg.chLoadB HX.out (by decide +kernel) rfl rfl (by rfl) rfl rfl ?_
              refine Agg.chMove rfl rfl rfl rfl ?_
              refine Agg.chLen Try.underlying22 rfl rfl rfl rfl ?_
              refine Agg.chGt true (decide_eq_true hc2) rfl rfl rfl rfl rfl ?_
              refine Agg.chPick rfl rfl rfl rfl rfl ?_
              refine Agg.chMove rfl rfl rfl rfl ?_
              refine Agg.chSkip rfl rfl ?_
              refine Agg.chSkip rfl rfl ?_
              refine Agg.chSkip rfl rfl ?_
              refine Agg.chSkip rfl rfl ?_
              refine Agg.chSkip rfl rfl ?_
              refine Agg.chSkip rfl rfl ?_
              refine Agg.chSkip rfl rfl ?_
              refine Agg.chSkip rfl rfl ?_
              refine Agg.chPick rfl rfl rfl rfl rfl ?_
              refine Agg.chEnd ?_
              intro vs w23 hb _
              refine Agg.wpNil ?_
              simp only [List.reverse, List.reverseAux, Agg.fill, List.set_cons_succ, List.set_cons_zero]
              replace HB := Lib.hid (HB.out.trans (hb.mono HB.out.size))
              replace HR := Lib.hid (HR.out.keep hb)
              replace HFZ := Lib.hid (HFZ.out.keep hb)
              replace HX := Lib.hid (HX.out.keep hb)
              clear hb
              go_wp2_with fail
              go_ret
              exact ⟨rfl, HB.out⟩
            · have hq0 := hc1
              obtain ⟨n, rfl⟩ : ∃ n : Nat, z = (n : Int) := ⟨z.toNat, by omega⟩
              have hn1 : 1 ≤ n := by omega
              have hn2 : n ≤ R.length := by omega
              have HT := Lib.hid (bds_take HR.out n hn2)
              have htl : (R.take n).length = n := by rw [List.length_take]; omega
              have hrc : R.length ≤ c2 := by obtain ⟨_, _, e, h1, _⟩ := SlR.shape HR.out; cases e; exact h1
              obtain ⟨q, hq⟩ : ∃ q, thrB (R.take n) cv = q := ⟨_, rfl⟩
              have HQ := Lib.hid hq
              clear hq
              refine Agg.chainR 20 (by kernel_rfl) (by kernel_rfl) ?_
              simp only [List.take_succ_cons, List.take_zero, List.drop_succ_cons, List.drop_zero]
              refine Agg.chFA fo_Piece_0 rfl rfl rfl rfl ?_
              refine Agg.chLoadB HX.out (by decide +kernel) rfl rfl (by rfl) rfl rfl ?_
              refine Agg.chLt false (decide_eq_false hc1) rfl rfl rfl rfl rfl ?_
              refine Agg.chMove rfl rfl rfl rfl ?_
              refine Agg.chFA fo_Piece_0 rfl rfl rfl rfl ?_
              refine Agg.chLoadB HX.out (by decide +kernel) rfl rfl (by rfl) rfl rfl ?_
              refine Agg.chMove rfl rfl rfl rfl ?_
              refine Agg.chLen Try.underlying22 rfl rfl rfl rfl ?_
              refine Agg.chGt false (decide_eq_false hc2) rfl rfl rfl rfl rfl ?_
              refine Agg.chPick rfl rfl rfl rfl rfl ?_
              refine Agg.chMove rfl rfl rfl rfl ?_
              refine Agg.chMove rfl rfl rfl rfl ?_
              refine Agg.chFA fo_Piece_0 rfl rfl rfl rfl ?_
              refine Agg.chLoadB HX.out (by decide +kernel) rfl rfl (by rfl) rfl rfl ?_
              refine Agg.chSlice none (some (.int .i64 (n : Int))) none rfl rfl rfl rfl rfl rfl rfl rfl (fun W => run_slice_upto tiBd y2 R.length c2 n (by omega) W) ?_
              refine Agg.chFA fo_Piece_1 rfl rfl rfl rfl ?_
              refine Agg.chLoadB HX.out (by decide +kernel) rfl rfl (by rfl) rfl rfl ?_
              refine Agg.chCall Try.func25 rfl (by kernel_rfl) rfl rfl rfl rfl (fun W hb => through_any (R.take n) _ cv W (SlR.keep HT.out hb) q HQ.out) ?_
              refine Agg.chNot rfl rfl rfl rfl ?_
              refine Agg.chPick rfl rfl rfl rfl rfl ?_
              refine Agg.chEnd ?_
              intro vs w24 hb _
              refine Agg.wpNil ?_
              simp only [List.reverse, List.reverseAux, Agg.fill, List.set_cons_succ, List.set_cons_zero]
              replace HB := Lib.hid (HB.out.trans (hb.mono HB.out.size))
              replace HR := Lib.hid (HR.out.keep hb)
              replace HFZ := Lib.hid (HFZ.out.keep hb)
              replace HX := Lib.hid (HX.out.keep hb)
              replace HT := Lib.hid (HT.out.keep hb)
              clear hb
              cases q
              · go_wp2_with fail
                go_ret
                exact ⟨rfl, HB.out⟩
              · have hth := (thrB_iff _ _).1 HQ.out
                have hpp := HPS.out n cv hn1 hn2 hth
                obtain ⟨y3, c3, hsl, hbd3⟩ := slice_rest tiBd HR.out n hn2
                rw [HDD.out] at hbd3
                have HR3 := Lib.hid hbd3
                have HPP := Lib.hid hpp
                clear hth hpp hbd3 HT HQ HPS HDD HR
                have x0 := HX.out.cell 0
                simp only [List.getElem?_cons_zero] at x0
                go_wp2_with (refine Agg.gSliceFrom (.slice y3 (R.length - n) c3) rfl rfl rfl rfl hsl ?_; simp only [Act.put, List.setIfInBounds_toArray, List.set_cons_succ, List.set_cons_zero])
                have hrl : R.length - n = L.length - (i + n) := by omega
                rw [hrl] at HR3 ⊢
                exact ⟨⟨k + 1, i + n, m + 1, y3, c3, by omega, by go_num, by omega, by go_num, by omega, HPP.out, rfl, HR3.out, HFZ.out⟩, by simp [intOf]; omega⟩
      · obtain rfl : k = ps.length := by omega
        by_cases h0 : L.length - i = 0
        · have h1 := hend (by omega)
          go_wp2_with fail
          go_ret
          exact ⟨by first | (simp; done) | (simp; omega), HB.out⟩
        · have h0b : ((L.length - i : Nat) : Int) > 0 := by omega
          go_wp2_with fail
          go_ret
          exact ⟨rfl, HB.out⟩
theorem PmcLeast_walk (v : Value) (f : Nat) (v2 : Value) (f2 : Nat) (w : World) (h : Agg.Good Try.prog w f 22 [v]) (h2 : Agg.Good Try.prog w f2 54 [v2]) :
    Calls Try.prog 7 #[v, v2] w fun e w' => e = .returned (.bool true) ∧ Below w.heap.size w w' := by
  obtain ⟨l, h3, h4⟩ := good_bands h
  obtain ⟨bs, h5⟩ := good_piece h2
  exact least_walk l bs v v2 w h3 h5
end Go.Proofs.Ytchpkgneloiidaa
