/-
  THE WALK OF LAYER 19's STATEMENT LogEnds.
-/
import Derived.Test.YtlddjcilbpcciaaLFdDw3
import Derived.Test.YtlddjcilbpcciaaLhQ
import Derived.Test.YtlddjcilbpcciaaLgY
import Derived.Test.YtlddjcilbpcciaaLFdDw1
namespace Agg
open Go Go.RowKit
theorem run_max3 {P : Program} (ts : Array TypeId) (t : TypeId) (k : IntKind) (x y z : Int) (w : World) : (Builtin.max_ ts t #[.int k x, .int k y, .int k z]).run P w = .ok (.int k (max (max x y) z)) w := by
  have h : ∀ a b : Int, max a b = if a < b then b else a := fun a b => by rw [Int.max_def]; split <;> split <;> omega
  rw [h, h]
  rfl
section
variable {n kk : Nat} {P : Program} {l rest : List Oper} {W : World} {l0 : List Value} {ds : List Deferred} {acc : List R} {o : Oper} {fin : List R → Prop}
theorem chMax3 {x y z : Operand} {ts : Array TypeId} {k : IntKind} {m q s : Int} (r : Int) (hr : max (max m q) s = r) (ho : o.op = .call { callee := .builtin .max, args := #[x, y, z], argTypes := ts }) (hx : rd (l.take n) l0 kk acc o x = some (.int k m)) (hy : rd (l.take n) l0 kk acc o y = some (.int k q)) (hz : rd (l.take n) l0 kk acc o z = some (.int k s)) (hw : wants kk acc o = some true) (hk : gOk l o = true)
    (h : ChainR n P l.toArray W ⟨l0.toArray, ds⟩ (kk + 1) ((.pure (.int k r)) :: acc) rest fin) : ChainR n P l.toArray W ⟨l0.toArray, ds⟩ kk acc (o :: rest) fin :=
  chPure (by rw [ho]; rfl) hw hk (fun a w hh w' => by subst hr; simp [execOp, ho, resolve, hh.rd hx, hh.rd hy, hh.rd hz, invoke, builtin, run_max3]) h
end
end Agg
namespace Go.Proofs.Ytlddjcilbpcciaa
open Go.ChangeShapes Go.WideShapes Go.ChangeAt Go.RowKit Agg Pg Dv Lg
attribute [local go_sem] Oper.semAt_some

/-- what a Replay says that finds nothing -/
def NoneT (M : Nat) (v : Value) (_ : World) : Prop := ∃ x c, v = .tuple #[.slice x 0 c, .agg #[.int .i64 0, .int .u64 (M : Int)], .int .i64 0]
def NoneV (v : Value) (_ : World) : Prop := ∃ x c, v = .slice x 0 c
abbrev EqV (u v : Value) (_ : World) : Prop := v = u
theorem NoneT.stable (M : Nat) : Stable (NoneT M) := fun _ _ _ h _ => h
theorem NoneV.stable : Stable NoneV := fun _ _ _ h _ => h
theorem EqV.stable (u : Value) : Stable (EqV u) := fun _ _ _ h _ => h
theorem NoneT.fst {M : Nat} (v : Value) (w : World) (h : NoneT M v w) : ∃ vs u, v = .tuple vs ∧ vs[0]? = some u ∧ NoneV u w := by
  obtain ⟨x, c, rfl⟩ := h; exact ⟨_, _, rfl, rfl, x, c, rfl⟩
theorem NoneT.snd {M : Nat} (v : Value) (w : World) (h : NoneT M v w) : ∃ vs u, v = .tuple vs ∧ vs[1]? = some u ∧ EqV (.agg #[.int .i64 0, .int .u64 (M : Int)]) u w := by
  obtain ⟨x, c, rfl⟩ := h; exact ⟨_, _, rfl, rfl, rfl⟩
theorem NoneT.thd {M : Nat} (v : Value) (w : World) (h : NoneT M v w) : ∃ vs u, v = .tuple vs ∧ vs[2]? = some u ∧ EqV (.int .i64 0) u w := by
  obtain ⟨x, c, rfl⟩ := h; exact ⟨_, _, rfl, rfl, rfl⟩
theorem DevR.pgs {w : World} {px : Option Addr} {n pc : Nat} {c f o : Value} {d : Dev} (h : DevR w (.agg #[.slice px n pc, c, f, o]) d) : Pgs w (.slice px n pc) d.pages := by
  obtain ⟨_, _, _, _, e, hp, _⟩ := h
  cases e
  exact hp
theorem pSt_max {b : List Sec} (h : BOk b) : pSt b ≤ 4611686018427387904 := by
  unfold pSt
  rcases readR_two b h with ⟨_, _, h2, _⟩ | ⟨_, _, _, h2⟩
  · exact h2.2
  · omega
theorem atL_len {d : Dev} (h : DGood d) (q : Nat) : (atL d q).length = 4 := (atL_bok h q).1
theorem u64_len {b : List Sec} (h : BOk b) : ∀ s ∈ b, s.1 < 18446744073709551616 := fun s hs => (h.2 s hs).2
theorem grB_lt {P : List (List Sec)} (h : ∀ b ∈ P, BOk b) : grB P < 18446744073709551616 := by
  have := grB_le (P := P) (X := 18446744073709551615).2 (fun b hb s hs => by have := u64_len (h b hb) s hs; omega)
  omega
theorem needL_nonneg (n : Int) : 0 ≤ needL n := by
  unfold needL
  split
  · exact Int.le_refl _
  · omega
theorem needs_nonneg : ∀ l : List (List UInt8), 0 ≤ (l.map fun g => needL g.length).sum
  | [] => by simp
  | g :: l => by
    rw [List.map_cons, List.sum_cons]
    have := needL_nonneg g.length
    have := needs_nonneg l
    omega
set_option maxHeartbeats 8000000 in
set_option maxRecDepth 100000 in
theorem ends_walk (x : Dev) (after : Nat) (dv : Value) (w : World) (hx : DevW x) (hf1 : -9223372036854775808 ≤ x.fuse) (hf2 : x.fuse ≤ 9223372036854775807) (hD : DevR w dv x) (hl : after < 18446744073709551616) :
    Calls Try.prog 4 #[dv, .int .u64 (after : Int)] w fun e w' => e = .returned (.bool true) ∧ Below w.heap.size w w' := by
  obtain ⟨px, cx, pc, cc, rfl, _, _⟩ := id hD
  have hog := ownD_good hx
  have hol := ownD_len x
  have HOW := Lib.hid (fun W v h => lown_any x v W hx hf1 hf2 h)
  obtain ⟨O, hO⟩ : ∃ O, ownD x = O := ⟨_, rfl⟩
  rw [hO] at hog hol HOW
  obtain ⟨R, hR⟩ : ∃ R, repA O after = R := ⟨_, rfl⟩
  obtain ⟨er, her⟩ : ∃ e, askL O = e := ⟨_, rfl⟩
  have HRP := Lib.hid (fun W v h => Replay_any O after v W hog (by omega) h hl)
  rw [hR, her] at HRP
  have HD := Lib.hid hD
  have HOG := Lib.hid hog
  have HOL := Lib.hid hol
  have HR := Lib.hid hR
  have HER := Lib.hid her
  have hR2 : R.2.2 < 18446744073709551616 := by rw [← hR]; exact (repA_bound hog hl).2
  have hR1 : R.2.1 ≤ 16 := by rw [← hR]; exact (repA_bound hog hl).1
  clear hD hO hog hol hR her hx hf1 hf2
  have HB := Lib.hid (Below.refl w.heap.size w)
  go_enter Try.func4, Try.ntmps4
  go_upto_region 1 with (fail)
  refine Agg.wp_at fun w1 hw1 => ?_
  have hb : Below w.heap.size w w1 := by rw [hw1.out]; repeat (first | exact Below.refl _ _ | refine Agg.bel_drew ?_ | refine Agg.bel_alloc ?_ _)
  replace HB := Lib.hid (HB.out.trans (hb.mono HB.out.size))
  replace HD := Lib.hid (HD.out.keep hb)
  clear hb
  have H2 : Hid (Blk w1 w.heap.size 28 [.slice px x.pages.length pc, .slice cx x.cache.length cc, .int .i64 x.fuse, .bool x.off]) := by show Blk _ _ _ _; rw [hw1.out]; exact Blk.new w 28 #[.slice px x.pages.length pc, .slice cx x.cache.length cc, .int .i64 x.fuse, .bool x.off]
  clear hw1
  go_wp2_with fail
  refine (wakes_any w1).mono ?_
  rintro e w2 ⟨rfl, hb⟩
  replace HB := Lib.hid (HB.out.trans (hb.mono HB.out.size))
  replace HD := Lib.hid (HD.out.keep hb)
  replace H2 := Lib.hid (H2.out.keep hb)
  clear hb
  have h2 := H2.out
  go_wp2_with (refine Agg.gLoadB 4 h2 rfl rfl rfl rfl (by decide +kernel) ?_; simp only [Act.put, List.setIfInBounds_toArray, List.set_cons_succ, List.set_cons_zero])
  clear h2
  refine (HOW.out w2 _ HD.out).mono ?_
  rintro e w3 ⟨v, rfl, hv, hb⟩
  replace HB := Lib.hid (HB.out.trans (hb.mono HB.out.size))
  replace HD := Lib.hid (HD.out.keep hb)
  replace H2 := Lib.hid (H2.out.keep hb)
  clear hb
  have HO := Lib.hid hv.read
  clear hv HOW HD H2
  obtain ⟨px2, pc2, cx2, cc2, rfl⟩ := HO.out.shape
  go_upto_region 4 with (first
    | (refine Agg.allocRow 28 #[.slice none 0 0, .slice none 0 0, .int .i64 0, .bool false] rfl rfl (by kernel_rfl) ?_; simp only [Act.put, List.setIfInBounds_toArray, List.set_cons_succ, List.set_cons_zero])
    | (refine Agg.gStoreNew 4 [.slice px2 O.pages.length pc2, .slice cx2 O.cache.length cc2, .int .i64 O.fuse, .bool O.off] rfl rfl rfl rfl rfl rfl (by decide +kernel) rfl rfl (by simp [Value.oneCell']) ?_; simp only [Act.put]))
  refine Agg.wp_at fun w4 hw4 => ?_
  have hb : Below w3.heap.size w3 w4 := by rw [hw4.out]; repeat (first | exact Below.refl _ _ | refine Agg.bel_drew ?_ | refine Agg.bel_alloc ?_ _)
  replace HB := Lib.hid (HB.out.trans (hb.mono HB.out.size))
  replace HO := Lib.hid (HO.out.keep hb)
  clear hb
  have H5 : Hid (Blk w4 w3.heap.size 28 [.slice px2 O.pages.length pc2, .slice cx2 O.cache.length cc2, .int .i64 O.fuse, .bool O.off]) := by show Blk _ _ _ _; rw [hw4.out]; exact Blk.new w3 28 #[.slice px2 O.pages.length pc2, .slice cx2 O.cache.length cc2, .int .i64 O.fuse, .bool O.off]
  clear hw4
  generalize w3.heap.size = g5 at *
  have h5 := H5.out
  go_wp2_with (refine Agg.gLoadB 4 h5 rfl rfl rfl rfl (by decide +kernel) ?_; simp only [Act.put, List.setIfInBounds_toArray, List.set_cons_succ, List.set_cons_zero])
  clear h5
  refine (HRP.out w4 _ HO.out).mono ?_
  rintro e w5 ⟨u, rfl, hu, hb⟩
  replace HB := Lib.hid (HB.out.trans (hb.mono HB.out.size))
  replace HO := Lib.hid (HO.out.keep hb)
  replace H5 := Lib.hid (H5.out.keep hb)
  clear hb
  have HG := Lib.hid hu.rows
  clear hu
  obtain ⟨lx, lc, rfl, hgl1, hgl2⟩ := rows2_shape HG.out
  unfold maxLen at hgl2
  go_upto_region 5 with (first
    | (refine Agg.allocRow 33 #[.int .i64 0, .int .u64 0] rfl rfl (by kernel_rfl) ?_; simp only [Act.put, List.setIfInBounds_toArray, List.set_cons_succ, List.set_cons_zero])
    | (refine Agg.gStoreNew 2 [.int .i64 (R.2.1 : Int), .int .u64 (R.2.2 : Int)] rfl rfl rfl rfl rfl rfl (by decide +kernel) rfl rfl (by simp [Value.oneCell']) ?_; simp only [Act.put]))
  refine Agg.wp_at fun w6 hw6 => ?_
  have hb : Below w5.heap.size w5 w6 := by rw [hw6.out]; repeat (first | exact Below.refl _ _ | refine Agg.bel_drew ?_ | refine Agg.bel_alloc ?_ _)
  replace HB := Lib.hid (HB.out.trans (hb.mono HB.out.size))
  replace HO := Lib.hid (HO.out.keep hb)
  replace H5 := Lib.hid (H5.out.keep hb)
  replace HG := Lib.hid (HG.out.keep hb)
  clear hb
  have H7 : Hid (Blk w6 w5.heap.size 33 [.int .i64 (R.2.1 : Int), .int .u64 (R.2.2 : Int)]) := by show Blk _ _ _ _; rw [hw6.out]; exact Blk.new w5 33 #[.int .i64 (R.2.1 : Int), .int .u64 (R.2.2 : Int)]
  clear hw6
  generalize w5.heap.size = g7 at *
  by_cases he : er = 0
  · obtain ⟨hri, hoff⟩ := askL_zero (HER.out.trans he)
    have hRG : repG (atL O) 0 after = R := by have := HR.out; unfold repA at this; rwa [if_pos (HER.out.trans he)] at this
    have hfa := rep_facts (fun i => atL_bok HOG.out i) 16 0 after (by omega) (by omega)
    rw [hRG] at hfa
    obtain ⟨f1, f2, _, _, f5, f6, f7⟩ := hfa
    simp only [Nat.sub_zero, Int.natCast_zero, Int.sub_zero] at f2 f5
    have F1 := Lib.hid f1
    have F2 := Lib.hid f2
    have F5 := Lib.hid f5
    have F6 := Lib.hid f6
    clear hri hoff hRG f1 f2 f5 f6 f7
    subst he
    go_wp2_with fail
    go_loopw [38, 9, 11] (fun ix s9 s11 wr => ∃ (k : Nat) (s : Int), k ≤ R.1.length ∧ ix = .int .i64 k ∧ s9 = .int .i64 s ∧ 0 ≤ s ∧ s + ((R.1.drop k).map fun g => needL g.length).sum = (R.2.1 : Int) ∧ DevR wr (.agg #[.slice px2 O.pages.length pc2, .slice cx2 O.cache.length cc2, .int .i64 O.fuse, .bool O.off]) O ∧ Blk wr g5 28 [.slice px2 O.pages.length pc2, .slice cx2 O.cache.length cc2, .int .i64 O.fuse, .bool O.off] ∧ Rows2 wr (.slice lx R.1.length lc) R.1 ∧ Blk wr g7 33 [.int .i64 (R.2.1 : Int), .int .u64 (R.2.2 : Int)] ∧ Below w.heap.size w wr) (fun ix _ _ _ => R.1.length - (intOf ix).toNat)
    case atStart => exact ⟨0, 0, by omega, rfl, rfl, by omega, by rw [List.drop_zero, F2.out]; omega, HO.out, H5.out, HG.out, H7.out, HB.out⟩
    case round =>
      clear HO H5 HG H7 HB
      obtain ⟨k, s, hk, rfl, rfl, hs0, hs, ho, h5, hg, h7, hb0⟩ := hrel
      have HO := Lib.hid ho
      have H5 := Lib.hid h5
      have HG := Lib.hid hg
      have H7 := Lib.hid h7
      have HB := Lib.hid hb0
      have HS := Lib.hid hs
      clear hb0 hs ho h5 hg h7
      obtain ⟨wA, hwA⟩ : ∃ x, x = wr := ⟨_, rfl⟩
      subst hwA
      by_cases hlt : k < R.1.length
      · obtain ⟨gb, go, gc', hve⟩ := rows2_pos HG.out (by omega)
        injection hve with q1 q2 q3
        subst q1; subst q3; clear q2
        obtain ⟨x1, c1, hc1, hby⟩ := rows2_at HG.out hlt
        have hne := F1.out _ (List.getElem_mem hlt)
        have hs2 := HS.out
        rw [List.drop_eq_getElem_cons hlt, List.map_cons, List.sum_cons] at hs2
        have hge := needL_nonneg R.1[k].length
        have hge2 := needs_nonneg (R.1.drop (k + 1))
        have hlz : ((R.1[k].length : Int) == 0) = false := beq_false_of_ne (by
          intro h
          exact hne (List.length_eq_zero_iff.1 (by omega)))
        have hlm := hby.shape
        obtain ⟨_, _, e1, hg1, hg2⟩ := hlm
        cases e1
        unfold maxLen at hg2
        obtain ⟨ln, hln⟩ : ∃ n, R.1[k].length = n := ⟨_, rfl⟩
        rw [hln] at hc1 hlz hs2 hge hg1
        obtain ⟨nd, hnd⟩ : ∃ n, needL (ln : Int) = n := ⟨_, rfl⟩
        rw [hnd] at hs2 hge
        have HS2 := Lib.hid hs2
        have hb16 : s + nd ≤ 16 := by omega
        have HND := Lib.hid hnd
        clear hs2 hge2 hne hby hnd HS hln
        go_wp2_with fail
        refine (need_any (ln : Int) (by omega) (by omega) wA).mono ?_
        rintro e w41 ⟨rfl, hb⟩
        replace HB := Lib.hid (HB.out.trans (hb.mono HB.out.size))
        replace HO := Lib.hid (HO.out.keep hb)
        replace H5 := Lib.hid (H5.out.keep hb)
        replace HG := Lib.hid (HG.out.keep hb)
        replace H7 := Lib.hid (H7.out.keep hb)
        clear hb
        rw [HND.out]
        go_wp2_with fail
        refine ⟨⟨k + 1, s + nd, by omega, by go_num, by go_num, by omega, by have := HS2.out; omega, HO.out, H5.out, HG.out, H7.out, HB.out⟩, by simp [intOf]; omega⟩
      · obtain rfl : k = R.1.length := by omega
        have hse := HS.out
        rw [List.drop_length, List.map_nil, List.sum_nil, Int.add_zero] at hse
        subst hse
        obtain ⟨M, hM⟩ : ∃ M, max (max R.2.2 (grB O.pages)) 4611686018427387904 = M := ⟨_, rfl⟩
        have hgr := grB_lt HOG.out.pages
        have hMl : M < 18446744073709551616 := by omega
        have HM : Hid (max (max (R.2.2 : Int) (grB O.pages : Int)) 4611686018427387904 = (M : Int)) := Lib.hid (by omega)
        have hrM : repA O M = ([], 0, M) := by
          unfold repA
          rw [if_pos HER.out]
          exact repG_end (next_none (by have := pSt_max (atL_bok HOG.out 0); omega))
        have HNO : Hid (∀ W v, DevR W v O → Calls Try.prog 13 #[v, .int .u64 (M : Int)] W fun e w' => ∃ v, e = .returned v ∧ NoneT M v w' ∧ Below W.heap.size W w') := Lib.hid (fun W v h => (Replay_any O M v W HOG.out (by have := HOL.out; omega) h hMl).mono (by
          rintro e w2 ⟨u, rfl, hu, hb⟩
          rw [hrM, HER.out] at *
          obtain ⟨x, c, rfl, _⟩ := rows2_shape hu.rows
          exact ⟨_, rfl, ⟨x, c, rfl⟩, hb⟩))
        have HPG := Lib.hid (DevR.pgs HO.out)
        clear hM hgr hrM
        go_upto_region 15 with (fail)
        by_cases hz : R.2.1 = 0
        · have hr2 := F6.out hz
          have hbz : ((R.2.1 : Int) == 0) = true := by simp [hz]
          have hbg : decide ((R.2.1 : Int) > 0) = false := by simp [hz]
          have hbe : ((R.2.2 : Int) != (after : Int)) = false := by simp [hr2]
          have HA := Lib.hid (And.intro hbz (And.intro hbg hbe))
          clear hbz hbg hbe hz hr2
          refine Agg.listR 37 (by kernel_rfl) ?_
          simp only [List.take_succ_cons, List.take_zero, List.drop_succ_cons, List.drop_zero]
          refine Agg.chMove rfl rfl rfl rfl ?_
          refine Agg.chFA (by first | exact fo_Lo_0 | exact fo_fo_Dev_0) rfl rfl rfl rfl ?_
          refine Agg.chLoadB H7.out (by decide +kernel) rfl rfl (by rfl) rfl rfl ?_
          refine Agg.chNe false (by simp) rfl rfl rfl rfl rfl ?_
          refine Agg.chMove rfl rfl rfl rfl ?_
          refine Agg.chMove rfl rfl rfl rfl ?_
          refine Agg.chGt false (by simp; omega) rfl rfl rfl rfl rfl ?_
          refine Agg.chPick rfl rfl rfl rfl rfl ?_
          refine Agg.chMove rfl rfl rfl rfl ?_
          refine Agg.chMove rfl rfl rfl rfl ?_
          refine Agg.chEq true HA.out.1 rfl rfl rfl rfl rfl ?_
          refine Agg.chMove rfl rfl rfl rfl ?_
          refine Agg.chFA (by first | exact fo_Lo_1 | exact fo_fo_Dev_1) rfl rfl rfl rfl ?_
          refine Agg.chLoadB H7.out (by decide +kernel) rfl rfl (by rfl) rfl rfl ?_
          refine Agg.chMove rfl rfl rfl rfl ?_
          refine Agg.chNe false HA.out.2.2 rfl rfl rfl rfl rfl ?_
          refine Agg.chPick rfl rfl rfl rfl rfl ?_
          refine Agg.chPick rfl rfl rfl rfl rfl ?_
          refine Agg.chMove rfl rfl rfl rfl ?_
          refine Agg.chMove rfl rfl rfl rfl ?_
          refine Agg.chGt false HA.out.2.1 rfl rfl rfl rfl rfl ?_
          refine Agg.chMove rfl rfl rfl rfl ?_
          refine Agg.chSkip rfl rfl ?_
          refine Agg.chSkip rfl rfl ?_
          refine Agg.chSkip rfl rfl ?_
          refine Agg.chSkip rfl rfl ?_
          refine Agg.chSkip rfl rfl ?_
          refine Agg.chSkip rfl rfl ?_
          refine Agg.chSkip rfl rfl ?_
          refine Agg.chSkip rfl rfl ?_
          refine Agg.chSkip rfl rfl ?_
          refine Agg.chSkip rfl rfl ?_
          refine Agg.chSkip rfl rfl ?_
          refine Agg.chSkip rfl rfl ?_
          refine Agg.chSkip rfl rfl ?_
          refine Agg.chPick rfl rfl rfl rfl rfl ?_
          refine Agg.chPick rfl rfl rfl rfl rfl ?_
          refine Agg.chEnd ?_
          intro vs w42 hb _
          simp only [List.reverse, List.reverseAux, Agg.fill, List.set_cons_succ, List.set_cons_zero]
          replace HB := Lib.hid (HB.out.trans (hb.mono HB.out.size))
          replace HO := Lib.hid (HO.out.keep hb)
          replace H5 := Lib.hid (H5.out.keep hb)
          replace HG := Lib.hid (HG.out.keep hb)
          replace H7 := Lib.hid (H7.out.keep hb)
          replace HPG := Lib.hid (HPG.out.keep hb)
          clear hb
          clear HA
          go_wp2_with fail
          refine Agg.chainR 13 (by kernel_rfl) (by kernel_rfl) ?_
          simp only [List.take_succ_cons, List.take_zero, List.drop_succ_cons, List.drop_zero]
          refine Agg.chRowB 4 H5.out rfl (by decide +kernel) rfl rfl rfl rfl ?_
          refine Agg.chFA (by first | exact fo_Lo_1 | exact fo_fo_Dev_1) rfl rfl rfl rfl ?_
          refine Agg.chLoadB H7.out (by decide +kernel) rfl rfl (by rfl) rfl rfl ?_
          refine Agg.chFA (by first | exact fo_Lo_0 | exact fo_fo_Dev_0) rfl rfl rfl rfl ?_
          refine Agg.chLoadB H5.out (by decide +kernel) rfl rfl (by rfl) rfl rfl ?_
          refine Agg.chCall Try.func14 rfl (by kernel_rfl) rfl rfl rfl rfl (fun W hb => great_any O.pages HOG.out.pages _ W (HPG.out.keep hb)) ?_
          refine Agg.chMax3 (M : Int) HM.out rfl rfl rfl rfl rfl rfl ?_
          refine Agg.chCallG Try.func13 rfl (by kernel_rfl) (NoneT M) (NoneT.stable M) rfl rfl rfl rfl (fun W hb => HNO.out W _ (HO.out.keep hb)) ?_
          refine Agg.chMoveO 7 (NoneT.stable M) rfl rfl rfl rfl rfl rfl ?_
          refine Agg.chExtractO 8 NoneV.stable NoneT.fst rfl rfl rfl rfl rfl rfl ?_
          refine Agg.chExtractO 8 (EqV.stable _) NoneT.snd rfl rfl rfl rfl rfl rfl ?_
          refine Agg.chExtractO 8 (EqV.stable _) NoneT.thd rfl rfl rfl rfl rfl rfl ?_
          refine Agg.chAlloc #[.int .i64 0, .int .u64 0] rfl (by kernel_rfl) rfl rfl ?_
          refine Agg.chEnd ?_
          intro vs w43 hb hf
          simp only [List.reverse, List.reverseAux, Agg.Facts] at hf
          obtain ⟨_, _, ⟨x9, c9, hv9⟩, hv10, hv11, ⟨g13, hv12, hg13, hb13⟩, _⟩ := hf
          simp only [List.reverse, List.reverseAux, Agg.fill, List.set_cons_succ, List.set_cons_zero, hv9, hv10, hv11, hv12]
          refine Agg.tAssign rfl rfl rfl ?_
          simp only [Agg.ev, List.getD_cons_zero, List.getD_cons_succ, List.set_cons_succ, List.set_cons_zero]
          refine Agg.tStore 2 (cs := [.int .i64 0, .int .u64 (M : Int)]) hb13 rfl rfl rfl rfl rfl (by decide +kernel) rfl rfl (by simp [Value.oneCell']) (fun wY hbY hgY => ?_)
          refine Agg.tAssign rfl rfl rfl ?_
          simp only [Agg.ev, List.getD_cons_zero, List.getD_cons_succ, List.set_cons_succ, List.set_cons_zero]
          refine Agg.wpNil ?_
          have hsz := HB.out.size
          have hbZ := HB.out.trans (hb.mono HB.out.size)
          have HBY := Lib.hid (hbZ.trans (grown_below hgY hbZ.size (fun j hj => by cases hj; omega)))
          have H13 := Lib.hid hbY
          clear hb hbZ hbY hgY hb13 hsz HB HO H5 HG H7 HPG
          have HB := HBY
          go_upto_region 18 with (fail)
          refine Agg.listR 12 (by kernel_rfl) ?_
          simp only [List.take_succ_cons, List.take_zero, List.drop_succ_cons, List.drop_zero]
          refine Agg.chMove rfl rfl rfl rfl ?_
          refine Agg.chEq true (by decide) rfl rfl rfl rfl rfl ?_
          refine Agg.chMove rfl rfl rfl rfl ?_
          refine Agg.chMove rfl rfl rfl rfl ?_
          refine Agg.chLen Try.underlying31 rfl rfl rfl rfl ?_
          refine Agg.chEq true (by decide) rfl rfl rfl rfl rfl ?_
          refine Agg.chPick rfl rfl rfl rfl rfl ?_
          refine Agg.chMove rfl rfl rfl rfl ?_
          refine Agg.chFA (by first | exact fo_Lo_0 | exact fo_fo_Dev_0) rfl rfl rfl rfl ?_
          refine Agg.chLoadB H13.out (by decide +kernel) rfl rfl (by rfl) rfl rfl ?_
          refine Agg.chEq true (by decide) rfl rfl rfl rfl rfl ?_
          refine Agg.chPick rfl rfl rfl rfl rfl ?_
          refine Agg.chEnd ?_
          intro vs w44 hb _
          simp only [List.reverse, List.reverseAux, Agg.fill, List.set_cons_succ, List.set_cons_zero]
          replace HB := Lib.hid (HB.out.trans (hb.mono HB.out.size))
          replace H13 := Lib.hid (H13.out.keep hb)
          clear hb
          go_wp2_with fail
          go_ret
          exact ⟨rfl, HB.out⟩
        · skip
          have hbz : ((R.2.1 : Int) == 0) = false := beq_false_of_ne (by omega)
          have hbg : decide ((R.2.1 : Int) > 0) = true := by simp; omega
          have hf5 := F5.out
          have hle : decide ((R.2.2 : Int) ≤ (after : Int)) = false := by simp; omega
          have hsb : some (IntKind.u64.wrap ((R.2.2 : Int) - (after : Int))) = some ((R.2.2 - after : Nat) : Int) := by rw [u64_small (by omega) (by omega)]; congr 1; omega
          have hwk : IntKind.u64.wrap (R.2.1 : Int) = (R.2.1 : Int) := u64_small (by omega) (by omega)
          have hlt2 : decide (((R.2.2 - after : Nat) : Int) < (R.2.1 : Int)) = false := by simp; omega
          have HA := Lib.hid (And.intro hbz (And.intro hbg (And.intro hle (And.intro hsb (And.intro hwk hlt2)))))
          clear hbz hbg hf5 hle hsb hwk hlt2
          refine Agg.listR 37 (by kernel_rfl) ?_
          simp only [List.take_succ_cons, List.take_zero, List.drop_succ_cons, List.drop_zero]
          refine Agg.chMove rfl rfl rfl rfl ?_
          refine Agg.chFA (by first | exact fo_Lo_0 | exact fo_fo_Dev_0) rfl rfl rfl rfl ?_
          refine Agg.chLoadB H7.out (by decide +kernel) rfl rfl (by rfl) rfl rfl ?_
          refine Agg.chNe false (by simp) rfl rfl rfl rfl rfl ?_
          refine Agg.chMove rfl rfl rfl rfl ?_
          refine Agg.chMove rfl rfl rfl rfl ?_
          refine Agg.chGt false (by simp; omega) rfl rfl rfl rfl rfl ?_
          refine Agg.chPick rfl rfl rfl rfl rfl ?_
          refine Agg.chMove rfl rfl rfl rfl ?_
          refine Agg.chMove rfl rfl rfl rfl ?_
          refine Agg.chEq false HA.out.1 rfl rfl rfl rfl rfl ?_
          refine Agg.chMove rfl rfl rfl rfl ?_
          refine Agg.chSkip rfl rfl ?_
          refine Agg.chSkip rfl rfl ?_
          refine Agg.chSkip rfl rfl ?_
          refine Agg.chSkip rfl rfl ?_
          refine Agg.chPick rfl rfl rfl rfl rfl ?_
          refine Agg.chPick rfl rfl rfl rfl rfl ?_
          refine Agg.chMove rfl rfl rfl rfl ?_
          refine Agg.chMove rfl rfl rfl rfl ?_
          refine Agg.chGt true HA.out.2.1 rfl rfl rfl rfl rfl ?_
          refine Agg.chMove rfl rfl rfl rfl ?_
          refine Agg.chFA (by first | exact fo_Lo_1 | exact fo_fo_Dev_1) rfl rfl rfl rfl ?_
          refine Agg.chLoadB H7.out (by decide +kernel) rfl rfl (by rfl) rfl rfl ?_
          refine Agg.chMove rfl rfl rfl rfl ?_
          refine Agg.chLe false HA.out.2.2.1 rfl rfl rfl rfl rfl ?_
          refine Agg.chMove rfl rfl rfl rfl ?_
          refine Agg.chFA (by first | exact fo_Lo_1 | exact fo_fo_Dev_1) rfl rfl rfl rfl ?_
          refine Agg.chLoadB H7.out (by decide +kernel) rfl rfl (by rfl) rfl rfl ?_
          refine Agg.chMove rfl rfl rfl rfl ?_
          refine Agg.chAr (r := ((R.2.2 - after : Nat) : Int)) rfl rfl rfl HA.out.2.2.2.1 rfl rfl ?_
          refine Agg.chMove rfl rfl rfl rfl ?_
          refine Agg.chInt (R.2.1 : Int) HA.out.2.2.2.2.1 (by kernel_rfl) Try.underlying29 rfl rfl rfl rfl ?_
          refine Agg.chLt false HA.out.2.2.2.2.2 rfl rfl rfl rfl rfl ?_
          refine Agg.chPick rfl rfl rfl rfl rfl ?_
          refine Agg.chPick rfl rfl rfl rfl rfl ?_
          refine Agg.chPick rfl rfl rfl rfl rfl ?_
          refine Agg.chEnd ?_
          intro vs w45 hb _
          simp only [List.reverse, List.reverseAux, Agg.fill, List.set_cons_succ, List.set_cons_zero]
          replace HB := Lib.hid (HB.out.trans (hb.mono HB.out.size))
          replace HO := Lib.hid (HO.out.keep hb)
          replace H5 := Lib.hid (H5.out.keep hb)
          replace HG := Lib.hid (HG.out.keep hb)
          replace H7 := Lib.hid (H7.out.keep hb)
          replace HPG := Lib.hid (HPG.out.keep hb)
          clear hb
          clear HA
          go_wp2_with fail
          refine Agg.chainR 13 (by kernel_rfl) (by kernel_rfl) ?_
          simp only [List.take_succ_cons, List.take_zero, List.drop_succ_cons, List.drop_zero]
          refine Agg.chRowB 4 H5.out rfl (by decide +kernel) rfl rfl rfl rfl ?_
          refine Agg.chFA (by first | exact fo_Lo_1 | exact fo_fo_Dev_1) rfl rfl rfl rfl ?_
          refine Agg.chLoadB H7.out (by decide +kernel) rfl rfl (by rfl) rfl rfl ?_
          refine Agg.chFA (by first | exact fo_Lo_0 | exact fo_fo_Dev_0) rfl rfl rfl rfl ?_
          refine Agg.chLoadB H5.out (by decide +kernel) rfl rfl (by rfl) rfl rfl ?_
          refine Agg.chCall Try.func14 rfl (by kernel_rfl) rfl rfl rfl rfl (fun W hb => great_any O.pages HOG.out.pages _ W (HPG.out.keep hb)) ?_
          refine Agg.chMax3 (M : Int) HM.out rfl rfl rfl rfl rfl rfl ?_
          refine Agg.chCallG Try.func13 rfl (by kernel_rfl) (NoneT M) (NoneT.stable M) rfl rfl rfl rfl (fun W hb => HNO.out W _ (HO.out.keep hb)) ?_
          refine Agg.chMoveO 7 (NoneT.stable M) rfl rfl rfl rfl rfl rfl ?_
          refine Agg.chExtractO 8 NoneV.stable NoneT.fst rfl rfl rfl rfl rfl rfl ?_
          refine Agg.chExtractO 8 (EqV.stable _) NoneT.snd rfl rfl rfl rfl rfl rfl ?_
          refine Agg.chExtractO 8 (EqV.stable _) NoneT.thd rfl rfl rfl rfl rfl rfl ?_
          refine Agg.chAlloc #[.int .i64 0, .int .u64 0] rfl (by kernel_rfl) rfl rfl ?_
          refine Agg.chEnd ?_
          intro vs w46 hb hf
          simp only [List.reverse, List.reverseAux, Agg.Facts] at hf
          obtain ⟨_, _, ⟨x9, c9, hv9⟩, hv10, hv11, ⟨g13, hv12, hg13, hb13⟩, _⟩ := hf
          simp only [List.reverse, List.reverseAux, Agg.fill, List.set_cons_succ, List.set_cons_zero, hv9, hv10, hv11, hv12]
          refine Agg.tAssign rfl rfl rfl ?_
          simp only [Agg.ev, List.getD_cons_zero, List.getD_cons_succ, List.set_cons_succ, List.set_cons_zero]
          refine Agg.tStore 2 (cs := [.int .i64 0, .int .u64 (M : Int)]) hb13 rfl rfl rfl rfl rfl (by decide +kernel) rfl rfl (by simp [Value.oneCell']) (fun wY hbY hgY => ?_)
          refine Agg.tAssign rfl rfl rfl ?_
          simp only [Agg.ev, List.getD_cons_zero, List.getD_cons_succ, List.set_cons_succ, List.set_cons_zero]
          refine Agg.wpNil ?_
          have hsz := HB.out.size
          have hbZ := HB.out.trans (hb.mono HB.out.size)
          have HBY := Lib.hid (hbZ.trans (grown_below hgY hbZ.size (fun j hj => by cases hj; omega)))
          have H13 := Lib.hid hbY
          clear hb hbZ hbY hgY hb13 hsz HB HO H5 HG H7 HPG
          have HB := HBY
          go_upto_region 18 with (fail)
          refine Agg.listR 12 (by kernel_rfl) ?_
          simp only [List.take_succ_cons, List.take_zero, List.drop_succ_cons, List.drop_zero]
          refine Agg.chMove rfl rfl rfl rfl ?_
          refine Agg.chEq true (by decide) rfl rfl rfl rfl rfl ?_
          refine Agg.chMove rfl rfl rfl rfl ?_
          refine Agg.chMove rfl rfl rfl rfl ?_
          refine Agg.chLen Try.underlying31 rfl rfl rfl rfl ?_
          refine Agg.chEq true (by decide) rfl rfl rfl rfl rfl ?_
          refine Agg.chPick rfl rfl rfl rfl rfl ?_
          refine Agg.chMove rfl rfl rfl rfl ?_
          refine Agg.chFA (by first | exact fo_Lo_0 | exact fo_fo_Dev_0) rfl rfl rfl rfl ?_
          refine Agg.chLoadB H13.out (by decide +kernel) rfl rfl (by rfl) rfl rfl ?_
          refine Agg.chEq true (by decide) rfl rfl rfl rfl rfl ?_
          refine Agg.chPick rfl rfl rfl rfl rfl ?_
          refine Agg.chEnd ?_
          intro vs w47 hb _
          simp only [List.reverse, List.reverseAux, Agg.fill, List.set_cons_succ, List.set_cons_zero]
          replace HB := Lib.hid (HB.out.trans (hb.mono HB.out.size))
          replace H13 := Lib.hid (H13.out.keep hb)
          clear hb
          go_wp2_with fail
          go_ret
          exact ⟨rfl, HB.out⟩
  · skip
    have hRz : R = ([], 0, 0) := by have := HR.out; unfold repA at this; rw [if_neg (by rw [HER.out]; exact he)] at this; exact this.symm
    subst hRz
    have heb : (er != 0) = true := by simp [he]
    have h7 : Blk w6 g7 33 [.int .i64 0, .int .u64 0] := H7.out
    have H7 := Lib.hid h7
    clear h7
    go_upto_region 6 with (fail)
    refine Agg.listR 8 (by kernel_rfl) ?_
    simp only [List.take_succ_cons, List.take_zero, List.drop_succ_cons, List.drop_zero]
    refine Agg.chMove rfl rfl rfl rfl ?_
    refine Agg.chLen Try.underlying31 rfl rfl rfl rfl ?_
    refine Agg.chEq true (by decide) rfl rfl rfl rfl rfl ?_
    refine Agg.chMove rfl rfl rfl rfl ?_
    refine Agg.chRowB 2 H7.out rfl (by decide +kernel) rfl rfl rfl rfl ?_
    refine Agg.chBuild (v := .agg #[.int .i64 0, .int .u64 0]) rfl rfl rfl rfl (fun W => by simp [go_sem]) ?_
    refine Agg.chBin (v := .bool true) rfl rfl rfl rfl rfl (fun w => flatLog.gd .eql _ _ _ _ w) (fun w => log_eql 0 0 0 0 (by decide) (by decide) (by decide) (by decide) true (by decide) w) ?_
    refine Agg.chPick rfl rfl rfl rfl rfl ?_
    refine Agg.chEnd ?_
    intro vs w48 hb _
    simp only [List.reverse, List.reverseAux, Agg.fill, List.set_cons_succ, List.set_cons_zero]
    replace HB := Lib.hid (HB.out.trans (hb.mono HB.out.size))
    replace HO := Lib.hid (HO.out.keep hb)
    replace H5 := Lib.hid (H5.out.keep hb)
    replace HG := Lib.hid (HG.out.keep hb)
    replace H7 := Lib.hid (H7.out.keep hb)
    clear hb
    go_wp2_with fail
    go_ret
    exact ⟨rfl, HB.out⟩
theorem LogEnds_walk (c0 : Array Value) (f0 : Nat) (a : Int) (w : World) (g0 : Agg.Good Try.prog w f0 28 c0.toList) (h1 : (Lit.int .u64 a).wf = true) :
    Calls Try.prog 4 #[.agg c0, .int .u64 a] w fun e w' => e = .returned (.bool true) ∧ Below w.heap.size w w' := by
  obtain ⟨d, hD, hW, hf1, hf2⟩ := good_dev g0
  obtain ⟨n, rfl, hn⟩ := u64_nat h1
  exact ends_walk d n _ w hW hf1 hf2 hD hn
end Go.Proofs.Ytlddjcilbpcciaa
