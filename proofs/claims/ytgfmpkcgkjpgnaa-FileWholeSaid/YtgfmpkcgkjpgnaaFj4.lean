/-
  FILES: the document's Put.
-/
import Derived.Test.YtgfmpkcgkjpgnaaFiX
import Derived.Test.YtgfmpkcgkjpgnaaFiE
import Derived.Test.YtgfmpkcgkjpgnaaFiS
section
namespace Go.Proofs.Ytgfmpkcgkjpgnaa
open Go.ChangeShapes Go.WideShapes Go.ChangeAt Go.RowKit Agg Pg Dv Fi
attribute [local go_sem] Oper.semAt_some

theorem rPut_R {d : Dev} {v : Value} {w : World} (hg : DGood d) (hc : d.cache.length ≤ 1000000) (hv : DevR w v d) (k : Int) {b : List Sec} (hb : BOk b) :
    Calls Try.prog 49 #[v, .int .i64 k, .agg (blkC b).toArray] w fun e w' => ∃ u, e = .returned (.tuple #[u, .int .i64 (goesP d (putP d k b)).1]) ∧ DevR w' u (goesP d (putP d k b)).2 ∧ Below w.heap.size w w' := by
  obtain ⟨x, y, cap, cm, rfl, h2, h3⟩ := hv
  exact rPut_any d.pages d.cache d.fuse d.off x y cap cm k b hb w hg.n1 hc h2 h3 hg.cache
/-- a device in a variable, that is read -/
def VarR (w : World) (g : Nat) (d : Dev) : Prop := ∃ (px : Option Addr) (pc : Nat) (cx : Option Addr) (cc : Nat), Blk w g 46 [.slice px d.pages.length pc, .slice cx d.cache.length cc, .int .i64 d.fuse, .bool d.off] ∧ DevR w (.agg #[.slice px d.pages.length pc, .slice cx d.cache.length cc, .int .i64 d.fuse, .bool d.off]) d
set_option maxHeartbeats 4000000 in
set_option maxRecDepth 100000 in
theorem rfPut_any (d : Dev) (A : List Int) (kind : Int) (n : Nat) (B : List UInt8) (dv av bv : Value) (w : World) (hd : DGood d) (hc : d.cache.length ≤ 10000) (hD : DevR w dv d) (hA : Ints w av A) (hB : Bytes w bv B) (hal : A.length ≤ 1000) (hbn : B.length ≤ 1000000) (hn : n < 18446744073709551616) :
    Calls Try.prog 23 #[dv, av, .int .i64 kind, .int .u64 (n : Int), bv] w fun e w' => ∃ v, e = .returned (.tuple #[v, .int .i64 (fPut d A kind n B).1]) ∧ DevR w' v (fPut d A kind n B).2 ∧ Below w.heap.size w w' := by
  obtain ⟨ax, ac, rfl, _, _⟩ := SlR.shape hA
  obtain ⟨bx, cap, rfl, _, _⟩ := SlR.shape hB
  obtain ⟨px, cx, pc, cc, rfl, hk2, hk3⟩ := hD
  have HD : Hid (DevR w (.agg #[.slice px d.pages.length pc, .slice cx d.cache.length cc, .int .i64 d.fuse, .bool d.off]) d) := Lib.hid ⟨px, cx, pc, cc, rfl, hk2, hk3⟩
  have HA0 := Lib.hid hA
  have HB0 := Lib.hid hB
  have HDG := Lib.hid hd
  obtain ⟨g, hg⟩ : ∃ g, fPut d A kind n B = g := ⟨_, rfl⟩
  rw [hg]
  unfold fPut at hg
  obtain ⟨rd, hrd⟩ : ∃ b, rightD d = b := ⟨_, rfl⟩
  obtain ⟨of, hof⟩ : ∃ b, d.off = b := ⟨_, rfl⟩
  obtain ⟨mb, hmb⟩ : ∃ b, mayB A kind B.length d.pages.length = b := ⟨_, rfl⟩
  rw [hrd, hof, hmb] at hg
  have HG := Lib.hid hg
  have HRD := Lib.hid hrd
  have HOF := Lib.hid hof
  have HMB := Lib.hid hmb
  have hre := fun W (hW : DevR W (.agg #[.slice px d.pages.length pc, .slice cx d.cache.length cc, .int .i64 d.fuse, .bool d.off]) d) => right_R hd hW
  rw [hrd] at hre
  have HRE := Lib.hid hre
  clear hg hrd hof hmb hre hd hA hB hk2 hk3
  have HB := Lib.hid (Below.refl w.heap.size w)
  go_enter Try.func23, Try.ntmps23
  go_upto_region 1 with (fail)
  refine Agg.wp_at fun w1 hw1 => ?_
  have hb : Below w.heap.size w w1 := by rw [hw1.out]; repeat (first | exact Below.refl _ _ | refine Agg.bel_drew ?_ | refine Agg.bel_alloc ?_ _)
  replace HB := Lib.hid (HB.out.trans (hb.mono HB.out.size))
  replace HD := Lib.hid (HD.out.keep hb)
  clear hb
  have H1 : Hid (Blk w1 w.heap.size 46 [.slice px d.pages.length pc, .slice cx d.cache.length cc, .int .i64 d.fuse, .bool d.off]) := by show Blk _ _ _ _; rw [hw1.out]; exact (Blk.new w 46 #[.slice px d.pages.length pc, .slice cx d.cache.length cc, .int .i64 d.fuse, .bool d.off]).al _
  have H2 : Hid (Blk w1 (w.heap.size + 1) 46 [.slice none 0 0, .slice none 0 0, .int .i64 0, .bool false]) := by show Blk _ _ _ _; rw [hw1.out]; exact Blk.newAt (w.alloc _) 46 #[.slice none 0 0, .slice none 0 0, .int .i64 0, .bool false] _ (by simp)
  clear hw1
  have h1 := H1.out
  go_wp2_with (refine Agg.gLoadB 4 h1 rfl rfl rfl rfl (by decide +kernel) ?_; simp only [Act.put, List.setIfInBounds_toArray, List.set_cons_succ, List.set_cons_zero])
  clear h1
  refine (HRE.out w1 HD.out).mono ?_
  rintro e w2 ⟨rfl, hb⟩
  replace HB := Lib.hid (HB.out.trans (hb.mono HB.out.size))
  replace HD := Lib.hid (HD.out.keep hb)
  replace H1 := Lib.hid (H1.out.keep hb)
  replace H2 := Lib.hid (H2.out.keep hb)
  clear hb
  clear HRE
  cases rd
  · have hg := HG.out
    rw [if_pos rfl] at hg
    subst hg
    have h2 := H2.out
    go_wp2_with (first
      | (refine Agg.gBuild0 (.agg #[.slice none 0 0, .slice none 0 0, .int .i64 0, .bool false]) rfl rfl (fun W => zero_dev W) ?_; simp only [Act.put, List.setIfInBounds_toArray, List.set_cons_succ, List.set_cons_zero])
      | (refine Agg.gStoreB 4 [.slice none 0 0, .slice none 0 0, .int .i64 0, .bool false] h2 rfl rfl rfl rfl rfl (by decide +kernel) rfl rfl (by simp [Value.oneCell']) (fun w14 hb14 hg14 => ?_)))
    refine bodyPost_ret (results_row2 (m := 4) rfl hb14 rfl (by decide +kernel) rfl) rfl ⟨_, rfl, devR_zero _, ?_⟩
    exact HB.out.trans (grown_below hg14 HB.out.size (fun j hj => (by cases hj; omega)))
  · have hg := HG.out
    rw [if_neg (by simp)] at hg
    clear HG
    have hnp : d.pages.length ≤ 256 := (right_six HRD.out).2.1
    have x3 := H1.out.cell 3
    simp only [List.getElem?_cons_zero, List.getElem?_cons_succ] at x3
    have hof := HOF.out
    rw [hof] at x3
    cases of
    · rw [if_neg (by simp)] at hg
      have h1 := H1.out
      have HLA := Lib.hid (fun W (hW : Ints W (.slice ax A.length ac) A) => rlaid_any A px cx ax d.pages.length pc d.cache.length cc ac d.fuse d.off kind B.length W hW (by omega) (by omega) hnp hal mb HMB.out)
      clear hof
      go_wp2_with (refine Agg.gLoadB 4 h1 rfl rfl rfl rfl (by decide +kernel) ?_; simp only [Act.put, List.setIfInBounds_toArray, List.set_cons_succ, List.set_cons_zero])
      clear h1 x3
      refine (HLA.out w2 (SlR.keep HA0.out HB.out)).mono ?_
      rintro e w3 ⟨rfl, hb⟩
      replace HB := Lib.hid (HB.out.trans (hb.mono HB.out.size))
      replace HD := Lib.hid (HD.out.keep hb)
      replace H1 := Lib.hid (H1.out.keep hb)
      replace H2 := Lib.hid (H2.out.keep hb)
      clear hb
      clear HLA
      cases mb
      · rw [if_pos rfl] at hg
        subst hg
        have h2 := H2.out
        go_wp2_with (first
          | (refine Agg.gBuild0 (.agg #[.slice none 0 0, .slice none 0 0, .int .i64 0, .bool false]) rfl rfl (fun W => zero_dev W) ?_; simp only [Act.put, List.setIfInBounds_toArray, List.set_cons_succ, List.set_cons_zero])
          | (refine Agg.gStoreB 4 [.slice none 0 0, .slice none 0 0, .int .i64 0, .bool false] h2 rfl rfl rfl rfl rfl (by decide +kernel) rfl rfl (by simp [Value.oneCell']) (fun w14 hb14 hg14 => ?_)))
        refine bodyPost_ret (results_row2 (m := 4) rfl hb14 rfl (by decide +kernel) rfl) rfl ⟨_, rfl, devR_zero _, ?_⟩
        exact HB.out.trans (grown_below hg14 HB.out.size (fun j hj => (by cases hj; omega)))
      · rw [if_neg (by simp)] at hg
        obtain ⟨hm1, hm2, hm3, hm4⟩ := mayB_facts HMB.out
        have ha1 : 1 ≤ A.length := by unfold needN at hm2; split at hm2 <;> omega
        obtain ⟨sb, hsb⟩ : ∃ b, decide (stampP n) = b := ⟨_, rfl⟩
        go_wp2_with fail
        refine (stamped_any n w3 sb hsb).mono ?_
        rintro e w4 ⟨rfl, hb⟩
        replace HB := Lib.hid (HB.out.trans (hb.mono HB.out.size))
        replace HD := Lib.hid (HD.out.keep hb)
        replace H1 := Lib.hid (H1.out.keep hb)
        replace H2 := Lib.hid (H2.out.keep hb)
        clear hb
        cases sb
        · rw [if_pos (of_decide_eq_false hsb)] at hg
          subst hg
          have h2 := H2.out
          go_wp2_with (first
            | (refine Agg.gBuild0 (.agg #[.slice none 0 0, .slice none 0 0, .int .i64 0, .bool false]) rfl rfl (fun W => zero_dev W) ?_; simp only [Act.put, List.setIfInBounds_toArray, List.set_cons_succ, List.set_cons_zero])
            | (refine Agg.gStoreB 4 [.slice none 0 0, .slice none 0 0, .int .i64 0, .bool false] h2 rfl rfl rfl rfl rfl (by decide +kernel) rfl rfl (by simp [Value.oneCell']) (fun w14 hb14 hg14 => ?_)))
          refine bodyPost_ret (results_row2 (m := 4) rfl hb14 rfl (by decide +kernel) rfl) rfl ⟨_, rfl, devR_zero _, ?_⟩
          exact HB.out.trans (grown_below hg14 HB.out.size (fun j hj => (by cases hj; omega)))
        · have hst := of_decide_eq_true hsb
          rw [if_neg (fun h => h hst)] at hg
          have hn1 : 1 ≤ n := hst.1
          have hn2 : n ≤ 4611686018427387904 := hst.2
          obtain ⟨q2, hq2⟩ : ∃ q, n + (A.length - 1) = q := ⟨_, rfl⟩
          obtain ⟨s2, hs2⟩ : ∃ b, decide (stampP q2) = b := ⟨_, rfl⟩
          have HW1 : Hid (IntKind.u64.wrap ((A.length : Int) - 1) = ((A.length - 1 : Nat) : Int)) := Lib.hid (by rw [u64_small (by omega) (by omega)]; omega)
          have HW2 : Hid (some (IntKind.u64.wrap ((n : Int) + ((A.length - 1 : Nat) : Int))) = some (q2 : Int)) := Lib.hid (by rw [u64_small (by omega) (by omega), ← hq2]; congr 1)
          have hfull : (4611686018427387904 - n < A.length - 1) ↔ s2 = false := by
            rw [← hs2, decide_eq_false_iff_not]
            unfold stampP
            omega
          clear hst hsb
          go_upto_region 7 with (fail)
          refine Agg.listR 8 (by kernel_rfl) ?_
          simp only [List.take_succ_cons, List.take_zero, List.drop_succ_cons, List.drop_zero]
          refine Agg.chMove rfl rfl rfl rfl ?_
          refine Agg.chMove rfl rfl rfl rfl ?_
          refine Agg.chLen Try.underlying22 rfl rfl rfl rfl ?_
          refine Agg.chAr64 rfl rfl rfl rfl (by omega) (by omega) rfl rfl ?_
          refine Agg.chInt ((A.length - 1 : Nat) : Int) HW1.out (by kernel_rfl) Try.underlying42 rfl rfl rfl rfl ?_
          refine Agg.chAr (r := (q2 : Int)) rfl rfl rfl HW2.out rfl rfl ?_
          refine Agg.chCall Try.func48 rfl (by kernel_rfl) rfl rfl rfl rfl (fun W hb => stamped_any q2 W s2 hs2) ?_
          refine Agg.chNot rfl rfl rfl rfl ?_
          refine Agg.chEnd ?_
          intro vs w5 hb _
          simp only [List.reverse, List.reverseAux, Agg.fill, List.set_cons_succ, List.set_cons_zero]
          replace HB := Lib.hid (HB.out.trans (hb.mono HB.out.size))
          replace HD := Lib.hid (HD.out.keep hb)
          replace H1 := Lib.hid (H1.out.keep hb)
          replace H2 := Lib.hid (H2.out.keep hb)
          clear hb
          cases s2
          · rw [if_pos (hfull.2 rfl)] at hg
            subst hg
            clear hfull HW1 HW2 hs2
            have h2 := H2.out
            go_wp2_with (first
              | (refine Agg.gBuild0 (.agg #[.slice none 0 0, .slice none 0 0, .int .i64 0, .bool false]) rfl rfl (fun W => zero_dev W) ?_; simp only [Act.put, List.setIfInBounds_toArray, List.set_cons_succ, List.set_cons_zero])
              | (refine Agg.gStoreB 4 [.slice none 0 0, .slice none 0 0, .int .i64 0, .bool false] h2 rfl rfl rfl rfl rfl (by decide +kernel) rfl rfl (by simp [Value.oneCell']) (fun w14 hb14 hg14 => ?_)))
            refine bodyPost_ret (results_row2 (m := 4) rfl hb14 rfl (by decide +kernel) rfl) rfl ⟨_, rfl, devR_zero _, ?_⟩
            exact HB.out.trans (grown_below hg14 HB.out.size (fun j hj => (by cases hj; omega)))
          · rw [if_neg (fun h => by have := hfull.1 h; cases this)] at hg
            have hst3 : stampP q2 := of_decide_eq_true hs2
            have hnA : n + A.length ≤ 4611686018427387905 := by have := hst3.2; omega
            clear hfull HW1 HW2 hs2 hst3 hq2
            have HG2 := Lib.hid hg
            clear hg
            have HBT := Lib.hid (fun W (hW : Bytes W (.slice bx B.length cap) B) => rBlocks_any kind n B _ A.length W hW hm3 hbn hm2 (by omega))
            go_wp2_with fail
            have hrB : Hid (BOk zeroB) := Lib.hid zeroB_bok
            refine (HBT.out w5 (SlR.keep HB0.out HB.out)).mono ?_
            rintro e w6 ⟨ubl, rfl, hbl, hb⟩
            replace HB := Lib.hid (HB.out.trans (hb.mono HB.out.size))
            replace HD := Lib.hid (HD.out.keep hb)
            replace H1 := Lib.hid (H1.out.keep hb)
            replace H2 := Lib.hid (H2.out.keep hb)
            clear hb
            clear HBT
            obtain ⟨ux, uc, rfl, _, _⟩ := (ownSl hbl).shape
            have HVR : Hid (VarR w6 w.heap.size d) := Lib.hid ⟨_, _, _, _, H1.out, HD.out⟩
            have HBLK0 : Hid (w6.ownsRow 0 64 132 (.slice ux A.length uc) A.length ((blkL kind n B A.length).flatMap blkC)) := Lib.hid (own_base hbl (Nat.zero_le _))
            have hd := HDG.out
            clear hbl H1 HD
            go_wp2_with fail
            go_loopw [54] (fun ix wr => ∃ (k : Nat) (dk : Dev), k ≤ A.length ∧ ix = .int .i64 k ∧ DGood dk ∧ dk.cache.length ≤ 10000 + k ∧ putsP dk (blksF kind n B k (A.drop k)) = g ∧ VarR wr w.heap.size dk ∧ Blk wr (w.heap.size + 1) 46 [.slice none 0 0, .slice none 0 0, .int .i64 0, .bool false] ∧ wr.ownsRow 0 64 132 (.slice ux A.length uc) A.length ((blkL kind n B A.length).flatMap blkC) ∧ Below w.heap.size w wr) (fun ix _ => A.length - (intOf ix).toNat)
            case atStart => exact ⟨0, d, by omega, rfl, hd, by omega, HG2.out, HVR.out, H2.out, HBLK0.out, HB.out⟩
            case round =>
              clear hd
              obtain ⟨k, dk, hk, rfl, hdk, hck, hrk, hvr, h2, hbk, hb⟩ := hrel
              have HDK := Lib.hid hdk
              have HRK := Lib.hid hrk
              have HVR := Lib.hid hvr
              have H2 := Lib.hid h2
              have HBK := Lib.hid hbk
              have HB := Lib.hid hb
              have HA := Lib.hid (SlR.keep HA0.out hb)
              clear hdk hrk hvr h2 hbk hb
              obtain ⟨wA, hwA⟩ : ∃ x, x = wr := ⟨_, rfl⟩
              subst hwA
              by_cases hlt : k < A.length
              · obtain ⟨ab, aof, ac', hve, _, _, _, _⟩ := SlR.pos HA.out (by decide) (by omega)
                simp only [Value.slice.injEq, true_and] at hve
                obtain ⟨rfl, rfl⟩ := hve
                have hblc := ownSl HBK.out
                obtain ⟨bb, ob, cb, hve, _, _, _, _⟩ := SlR.pos hblc (by decide) (by omega)
                simp only [Value.slice.injEq, true_and] at hve
                obtain ⟨rfl, rfl⟩ := hve
                have hcell := ints_at HA.out hlt
                have hbj : k < (blkL kind n B A.length).length := by rw [blkL_length]; exact hlt
                have hcs := flat_at blkC 132 (by decide) (l := blkL kind n B A.length) (by rw [blkL_length]; exact hblc) (fun b hb => by
                  obtain ⟨i, hi, rfl⟩ := List.mem_map.1 hb
                  exact bok_cells (lay_bok _ _ _ (partB_len _ _) (by have := List.mem_range.1 hi; omega))) hbj
                rw [blkL_at kind n B A.length k hlt] at hcs
                have hst := blksF_drop kind n B A k hlt
                obtain ⟨a, ha⟩ : ∃ y, A[k] = y := ⟨_, rfl⟩
                rw [ha] at hcell hst
                have hrk := HRK.out
                rw [hst, putsP] at hrk
                have hbok := lay_bok kind (partB B k) (n + k) (partB_len B k) (by omega)
                obtain ⟨bl, hbl2⟩ : ∃ y, layB kind (partB B k) (n + k) = y := ⟨_, rfl⟩
                rw [hbl2] at hrk hbok hcs
                obtain ⟨g2, hg2⟩ : ∃ g, goesP dk (putP dk a bl) = g := ⟨_, rfl⟩
                have hgg : DGood g2.2 := by rw [← hg2]; exact goesP_good HDK.out (putP_good HDK.out a hbok)
                have hgc : g2.2.cache.length ≤ 10000 + (k + 1) := by
                  rw [← hg2]
                  exact goesP_len (by omega) (Nat.le_trans (putP_len dk a bl) (by omega))
                rw [hg2] at hrk
                have HG := Lib.hid hg2
                have HGG := Lib.hid hgg
                have HRX := Lib.hid hrk
                have HBO := Lib.hid hbok
                have HCS := Lib.hid hcs
                have HCE := Lib.hid hcell
                obtain ⟨qx, qc, rx, rc, hv1, hv2⟩ := HVR.out
                have HV1 := Lib.hid hv1
                have HV2 := Lib.hid hv2
                have H132 := Lib.hid (bok_cells hbok)
                have HONE := Lib.hid (blkC_one bl)
                clear ha hst hrk hbok hbl2 hv1 hv2 hg2 hgg HRK HVR hcs hcell hbj hblc
                obtain ⟨gb, hgb⟩ : ∃ q, wA.heap.size = q := ⟨_, rfl⟩
                have hHCE := HCE.out
                go_upto_region 12 with (first
                  | (refine Agg.gLoad 132 (blkC bl) rfl rfl rfl (by decide +kernel) H132.out HCS.out ?_; simp only [Act.put, List.setIfInBounds_toArray, List.set_cons_succ, List.set_cons_zero])
                  | (refine Agg.allocRow 64 (blkC zeroB).toArray rfl rfl (by kernel_rfl) ?_; simp only [Act.put, List.setIfInBounds_toArray, List.set_cons_succ, List.set_cons_zero])
                  | (refine Agg.gStoreNew 132 (blkC bl) rfl rfl rfl rfl rfl rfl (by decide +kernel) H132.out zero132 HONE.out ?_; simp only [Act.put]))
                clear hHCE
                have HX := Lib.hid (Blk.newAt wA 64 (blkC bl).toArray gb hgb.symm)
                have hbD : Below wA.heap.size wA (wA.alloc (.cells (blkC bl).toArray 64)) := (Below.refl _ _).alloc (Nat.le_refl _) _
                have hkk := HV1.out.lt
                refine Agg.wp_at fun wD hwD => ?_
                rw [← hwD.out] at HX hbD
                rw [hgb]
                clear hwD hgb HONE HCS
                have hb := hbD
                replace HB := Lib.hid (HB.out.trans (hb.mono HB.out.size))
                replace HV1 := Lib.hid (HV1.out.keep hb)
                replace HV2 := Lib.hid (HV2.out.keep hb)
                replace H2 := Lib.hid (H2.out.keep hb)
                replace HBK := Lib.hid (HBK.out.keep hb)
                clear hb
                have HCD := Lib.hid (cell_keep hbD HCE.out)
                clear hbD
                have HDV : Hid (∀ W, Below wD.heap.size wD W → DevR W (.agg #[.slice qx dk.pages.length qc, .slice rx dk.cache.length rc, .int .i64 dk.fuse, .bool dk.off]) dk) := Lib.hid fun W hb => DevR.keep HV2.out hb
                refine Agg.chainR 11 (by kernel_rfl) (by kernel_rfl) ?_
                simp only [List.take_succ_cons, List.take_zero, List.drop_succ_cons, List.drop_zero]
                refine Agg.chRowB 4 HV1.out rfl (by decide +kernel) rfl rfl rfl rfl ?_
                refine Agg.chMove rfl rfl rfl rfl ?_
                refine Agg.chMove rfl rfl rfl rfl ?_
                refine Agg.chIA tiInt (by omega) (by omega) rfl rfl rfl rfl rfl ?_
                refine Agg.chLoad rfl rfl rfl rfl (by decide +kernel) (by simp only [Int.toNat_natCast, Nat.mul_one]; exact HCD.out) ?_
                refine Agg.chRowB 132 HX.out H132.out (by decide +kernel) rfl rfl rfl rfl ?_
                refine Agg.chCallG Try.func49 rfl (by kernel_rfl) (DevRT g2.1 g2.2) (DevRT.stable _ _) rfl rfl rfl rfl (fun W hb => Calls.mono (rPut_R HDK.out (by omega) (HDV.out W hb) a HBO.out) (by rw [HG.out]; rintro e w2 ⟨v, rfl, h, h2⟩; exact ⟨_, rfl, ⟨v, rfl, h⟩, h2⟩)) ?_
                refine Agg.chMoveO 6 (DevRT.stable _ _) rfl rfl rfl rfl rfl rfl ?_
                refine Agg.chExtractO 7 (DevRV.stable _) DevRT.fst rfl rfl rfl rfl rfl rfl ?_
                refine Agg.chExtractO 7 (IntV.stable _) DevRT.snd rfl rfl rfl rfl rfl rfl ?_
                refine Agg.chAlloc #[.slice none 0 0, .slice none 0 0, .int .i64 0, .bool false] rfl (by kernel_rfl) rfl rfl ?_
                refine Agg.chEnd ?_
                intro vs w61 hb hf
                simp only [List.reverse, List.reverseAux, Agg.Facts] at hf
                obtain ⟨_, _, ⟨p9, x9, c9, y9, hv9, hp9, hc9⟩, hv10, ⟨gx, hvx, hsx, hkx⟩, _⟩ := hf
                simp only [List.reverse, List.reverseAux, Agg.fill, List.set_cons_succ, List.set_cons_zero, hv9, hv10, hvx]
                have hdr : DevR w61 (.agg #[.slice p9 g2.2.pages.length c9, .slice x9 g2.2.cache.length y9, .int .i64 g2.2.fuse, .bool g2.2.off]) g2.2 := ⟨_, _, _, _, rfl, hp9, hc9⟩
                refine Agg.tStore 4 (cs := [.slice p9 g2.2.pages.length c9, .slice x9 g2.2.cache.length y9, .int .i64 g2.2.fuse, .bool g2.2.off]) hkx rfl rfl rfl rfl rfl (by decide +kernel) rfl rfl (by simp [Value.oneCell']) (fun w70 hb70 hg70 => ?_)
                refine Agg.tAssign rfl rfl rfl ?_
                simp only [Agg.ev, List.getD_cons_zero, List.getD_cons_succ, List.set_cons_succ, List.set_cons_zero]
                refine Agg.wpNil ?_
                have hgx := HV1.out.lt
                have hbX := bel_grown hb hg70 hsx
                have HDR := Lib.hid (hdr.far HGG.out.ok hkx hg70)
                have HV1x := Lib.hid (HV1.out.keep hbX)
                have H2x := Lib.hid (H2.out.keep hbX)
                have HBKx := Lib.hid (own_keep HBK.out hbX)
                have HBx := Lib.hid (HB.out.trans (hbX.mono HB.out.size))
                have HN70 := Lib.hid hb70
                have hrx := HRX.out
                clear hdr hkx hg70 hb hbX hv9 hv10 hvx hp9 hc9 HV1 H2 HBK HB HDV HV2 HX HCD hsx hb70
                have hs2 := H2x.out.lt
                by_cases hz : g2.1 = 0
                · rw [hz] at hrx ⊢
                  rw [if_neg (by simp)] at hrx
                  have h70 := HN70.out
                  have hv1x := HV1x.out
                  go_wp2_with (first
                    | (refine Agg.gLoadB 4 h70 rfl rfl rfl rfl (by decide +kernel) ?_; simp only [Act.put, List.setIfInBounds_toArray, List.set_cons_succ, List.set_cons_zero])
                    | (refine Agg.gStoreB 4 [.slice p9 g2.2.pages.length c9, .slice x9 g2.2.cache.length y9, .int .i64 g2.2.fuse, .bool g2.2.off] hv1x rfl rfl rfl rfl rfl (by decide +kernel) rfl rfl (by simp [Value.oneCell']) (fun w71 hb71 hg71 => ?_)))
                  exact ⟨⟨k + 1, g2.2, by omega, by go_num, HGG.out, hgc, hrx, ⟨_, _, _, _, hb71, HDR.out.far HGG.out.ok hv1x hg71⟩, H2x.out.far' hg71 (by omega), HBKx.out.kept hg71 (own_apart HBKx.out hv1x (by decide)), HBx.out.trans (grown_below hg71 HBx.out.size (fun j e => by cases e; exact Nat.le_refl _))⟩, by simp [intOf]; omega⟩
                · rw [if_pos hz] at hrx
                  subst hrx
                  have h70 := HN70.out
                  have h2 := H2x.out
                  go_wp2_with (first
                    | (refine Agg.gLoadB 4 h70 rfl rfl rfl rfl (by decide +kernel) ?_; simp only [Act.put, List.setIfInBounds_toArray, List.set_cons_succ, List.set_cons_zero])
                    | (refine Agg.gStoreB 4 [.slice p9 g2.2.pages.length c9, .slice x9 g2.2.cache.length y9, .int .i64 g2.2.fuse, .bool g2.2.off] h2 rfl rfl rfl rfl rfl (by decide +kernel) rfl rfl (by simp [Value.oneCell']) (fun w14 hb14 hg14 => ?_)))
                  refine bodyPost_ret (results_row2 (m := 4) rfl hb14 rfl (by decide +kernel) rfl) rfl ⟨_, rfl, HDR.out.far HGG.out.ok h2 hg14, ?_⟩
                  exact HBx.out.trans (grown_below hg14 HBx.out.size (fun j hj => (by cases hj; omega)))
              · obtain rfl : k = A.length := by omega
                have hrk := HRK.out
                rw [List.drop_length, blksF, putsP] at hrk
                subst hrk
                obtain ⟨qx, qc, rx, rc, hv1, hv2⟩ := HVR.out
                have h2 := H2.out
                go_wp2_with (first
                  | (refine Agg.gLoadB 4 hv1 rfl rfl rfl rfl (by decide +kernel) ?_; simp only [Act.put, List.setIfInBounds_toArray, List.set_cons_succ, List.set_cons_zero])
                  | (refine Agg.gStoreB 4 [.slice qx dk.pages.length qc, .slice rx dk.cache.length rc, .int .i64 dk.fuse, .bool dk.off] h2 rfl rfl rfl rfl rfl (by decide +kernel) rfl rfl (by simp [Value.oneCell']) (fun w14 hb14 hg14 => ?_)))
                refine bodyPost_ret (results_row2 (m := 4) rfl hb14 rfl (by decide +kernel) rfl) rfl ⟨_, rfl, hv2.far HDK.out.ok h2 hg14, ?_⟩
                exact HB.out.trans (grown_below hg14 HB.out.size (fun j hj => (by cases hj; omega)))
    · rw [if_pos rfl] at hg
      subst hg
      have h1 := H1.out
      have h2 := H2.out
      go_wp2_with (first
        | (refine Agg.gLoadB 4 h1 rfl rfl rfl rfl (by decide +kernel) ?_; simp only [Act.put, List.setIfInBounds_toArray, List.set_cons_succ, List.set_cons_zero])
        | (refine Agg.gStoreB 4 [.slice px d.pages.length pc, .slice cx d.cache.length cc, .int .i64 d.fuse, .bool d.off] h2 rfl rfl rfl rfl rfl (by decide +kernel) rfl rfl (by simp [Value.oneCell']) (fun w14 hb14 hg14 => ?_)))
      refine bodyPost_ret (results_row2 (m := 4) rfl hb14 rfl (by decide +kernel) rfl) rfl ⟨_, rfl, HD.out.far HDG.out.ok h2 hg14, ?_⟩
      exact HB.out.trans (grown_below hg14 HB.out.size (fun j hj => (by cases hj; omega)))
end Go.Proofs.Ytgfmpkcgkjpgnaa
end
section
/-
  FILES: the document's way to get a file is the program's, in plain Lean.
-/
namespace Go.Proofs.Ytgfmpkcgkjpgnaa
open Go.ChangeShapes Go.WideShapes Go.ChangeAt Go.RowKit Agg Pg Dv Fi

/-- what pages say, one behind the other: their first stamp, their bytes -/
noncomputable def readsP (d : Dev) : Nat → Nat → List UInt8 → List Int → Option (Nat × List UInt8)
  | _, f, out, [] => some (f, out)
  | i, f, out, a :: l => if (readR (readP d a).2).2.2 ≠ 0 then none else readsP d (i + 1) (if i = 0 then (readR (readP d a).2).2.1 else f) (out ++ (readR (readP d a).2).1.2) l
/-- do the blocks lie there? -/
def liesP (d : Dev) (A : List Int) (kind : Int) (f : Nat) (out : List UInt8) : Prop := ∀ i (h : i < A.length), layB kind (partB out i) (f + i) = (readP d A[i]).2
theorem gets_reads {d : Dev} {kind bytes : Int} : ∀ (A : List Int) (k f : Nat) (out : List UInt8), (∀ a ∈ A, (readP d a).1 = 0) → (getsP d kind bytes k f out A).2 = 0 → ∃ F, readsP d k f out A = some (F, (getsP d kind bytes k f out A).1) ∧ (k ≠ 0 → F = f) := by
  intro A
  induction A with
  | nil => intro k f out _ _; exact ⟨f, rfl, fun _ => rfl⟩
  | cons a l ih =>
    intro k f out hA hz
    rcases gets_step (kind := kind) (bytes := bytes) (l := l) (k := k) (f := f) (out := out) (hA a (by simp)) with ⟨f2, e1, e2, e3, e4, e5, e6⟩ | e
    · rw [e6] at hz ⊢
      obtain ⟨F, h1, h2⟩ := ih (k + 1) f2 _ (fun x hx => hA x (by simp [hx])) hz
      refine ⟨F, ?_, fun hk => ?_⟩
      · rw [readsP, if_neg (by rw [e2]; decide), ← e1]; exact h1
      · rw [h2 (by omega), e1, if_neg hk]
    · rw [e] at hz; exact absurd hz (by decide)
theorem gets_first {d : Dev} {kind bytes : Int} {A : List Int} (hA : ∀ a ∈ A, (readP d a).1 = 0) (h0 : 0 < A.length) (hz : (getsP d kind bytes 0 0 [] A).2 = 0) : readsP d 0 0 [] A = some ((readR (readP d A[0]).2).2.1, (getsP d kind bytes 0 0 [] A).1) := by
  cases A with
  | nil => simp at h0
  | cons a l =>
    rcases gets_step (kind := kind) (bytes := bytes) (l := l) (k := 0) (f := 0) (out := []) (hA a (by simp)) with ⟨f2, e1, e2, e3, e4, e5, e6⟩ | e
    · rw [e6] at hz ⊢
      obtain ⟨F, h1, h2⟩ := gets_reads l (0 + 1) f2 _ (fun x hx => hA x (by simp [hx])) hz
      rw [readsP, if_neg (by rw [e2]; decide), ← e1, h1, h2 (by decide), e1]; rfl
    · rw [e] at hz; exact absurd hz (by decide)
theorem gets_pre {d : Dev} {kind bytes : Int} : ∀ (A : List Int) (k f : Nat) (out : List UInt8), (∀ a ∈ A, (readP d a).1 = 0) → (getsP d kind bytes k f out A).2 = 0 → ∃ r, (getsP d kind bytes k f out A).1 = out ++ r := by
  intro A
  induction A with
  | nil => intro k f out _ _; exact ⟨[], by rw [List.append_nil]; rfl⟩
  | cons a l ih =>
    intro k f out hA hz
    rcases gets_step (kind := kind) (bytes := bytes) (l := l) (k := k) (f := f) (out := out) (hA a (by simp)) with ⟨f2, e1, e2, e3, e4, e5, e6⟩ | e
    · rw [e6] at hz ⊢
      obtain ⟨r, hr⟩ := ih (k + 1) f2 _ (fun x hx => hA x (by simp [hx])) hz
      exact ⟨_, by rw [hr, List.append_assoc]⟩
    · rw [e] at hz; exact absurd hz (by decide)
/-- the parts that are got are the pages' data -/
theorem gets_part {d : Dev} {kind bytes : Int} (hb : 0 ≤ bytes) : ∀ (A : List Int) (k f : Nat) (out : List UInt8), (∀ a ∈ A, (readP d a).1 = 0) → (getsP d kind bytes k f out A).2 = 0 → (out.length : Int) = min bytes (120 * k) → (∀ i, i < A.length → 120 * ((k + i : Nat) : Int) < bytes) → ∀ i (h : i < A.length), partB (getsP d kind bytes k f out A).1 (k + i) = (readR (readP d A[i]).2).1.2 := by
  intro A
  induction A with
  | nil => intro k f out _ _ _ _ i h; simp at h
  | cons a l ih =>
    intro k f out hA hz ho hl i h
    have hlen := gets_len hb (a :: l) k f out hA hz ho
    rcases gets_step (kind := kind) (bytes := bytes) (l := l) (k := k) (f := f) (out := out) (hA a (by simp)) with ⟨f2, e1, e2, e3, e4, e5, e6⟩ | e
    · rw [e6] at hz hlen ⊢
      cases i with
      | zero =>
        obtain ⟨r, hr⟩ := gets_pre l (k + 1) f2 _ (fun x hx => hA x (by simp [hx])) hz
        rw [hr] at hlen ⊢
        have h0 := hl 0 (by simp)
        have hol : out.length = 120 * k := by omega
        rw [List.getElem_cons_zero]
        unfold partB
        rw [List.append_assoc, Nat.add_zero, Nat.mul_comm, ← hol, List.drop_left]
        by_cases h120 : (readR (readP d a).2).1.2.length = 120
        · rw [← h120, List.take_left]
        · have hr0 : r = [] := by
            apply List.eq_nil_of_length_eq_zero
            rw [List.length_append, List.length_append] at hlen
            omega
          rw [hr0, List.append_nil, List.take_of_length_le (by omega)]
      | succ i =>
        have h2 := ih (k + 1) f2 _ (fun x hx => hA x (by simp [hx])) hz (by rw [List.length_append]; omega) (fun j hj => by have := hl (j + 1) (by simpa using hj); rw [show k + 1 + j = k + (j + 1) by omega]; exact this) i (by simpa using h)
        rw [List.getElem_cons_succ, ← h2]
        congr 1; omega
    · rw [e] at hz; exact absurd hz (by decide)
theorem lay_stamp {kind kind' : Int} {d d' : List UInt8} {n n' : Nat} (h : layB kind d n = layB kind' d' n') : n = n' := by
  have h2 := congrArg st0 h
  exact h2
theorem reads_st {d : Dev} (hg : DGood d) : ∀ (A : List Int) (k f : Nat) (out : List UInt8) (F : Nat) (O : List UInt8), readsP d k f out A = some (F, O) → (∀ i (h : i < A.length), (readR (readP d A[i]).2).2.2 = 0) ∧ (k ≠ 0 → F = f) := by
  intro A
  induction A with
  | nil => intro k f out F O h; rw [readsP] at h; cases h; exact ⟨fun i h => by simp at h, fun _ => rfl⟩
  | cons a l ih =>
    intro k f out F O h
    rw [readsP] at h
    by_cases h0 : (readR (readP d a).2).2.2 = 0
    · rw [if_neg (by rw [h0]; decide)] at h
      obtain ⟨h1, h2⟩ := ih (k + 1) _ _ F O h
      refine ⟨fun i hi => ?_, fun hk => by rw [h2 (by omega), if_neg hk]⟩
      cases i with
      | zero => exact h0
      | succ i => exact h1 i (by simpa using hi)
    · rw [if_pos h0] at h; cases h
/-- the document's way is the program's -/
theorem rget_eq {d : Dev} (hg : DGood d) {kind bytes : Int} {A : List Int} (hA : ∀ a ∈ A, (readP d a).1 = 0) (hk : kind = 3 ∨ kind = 4) (hb : 1 ≤ bytes) (hl : (A.length : Int) = needN bytes) :
    (∃ F O, readsP d 0 0 [] A = some (F, O) ∧ (O.length : Int) = bytes ∧ liesP d A kind F O ∧ getsP d kind bytes 0 0 [] A = (O, 0))
    ∨ ((∀ F O, readsP d 0 0 [] A = some (F, O) → (O.length : Int) = bytes → ¬ liesP d A kind F O) ∧ getsP d kind bytes 0 0 [] A = ([], 300)) := by
  have hn : bytes ≤ 120 * A.length ∧ 1 ≤ A.length ∧ ∀ i, i < A.length → 120 * (i : Int) < bytes := by
    unfold needN at hl
    rw [if_neg (by omega)] at hl
    exact ⟨by omega, by omega, fun i hi => by omega⟩
  obtain ⟨hn1, hn2, hn3⟩ := hn
  rcases gets_two (kind := kind) (bytes := bytes) A 0 0 [] hA with hz | hz
  · left
    have h1 := gets_first hA hn2 hz
    have h2 := gets_len (by omega) A 0 0 [] hA hz (by simp; omega)
    have h3 := gets_inv0 hA hn2 hz
    have h4 := gets_part (by omega) A 0 0 [] hA hz (by simp; omega) (fun i hi => by rw [Nat.zero_add]; exact hn3 i hi)
    refine ⟨_, _, h1, by omega, fun i hi => ?_, by rw [← hz]⟩
    obtain ⟨a1, a2, a3⟩ := h3 i hi
    have hp := h4 i hi
    rw [Nat.zero_add] at hp
    rcases readR_cases _ (readP_bok hg A[i]) _ _ _ _ (rfl : readR (readP d A[i]).2 = ((_, _), _, _)) with ⟨_, _, _, h⟩ | ⟨h, _⟩
    · rw [hp, ← a3, ← a2]; exact h
    · exact absurd a1 h
  · right
    refine ⟨fun F O h1 h2 h3 => ?_, hz⟩
    obtain ⟨hs, _⟩ := reads_st hg A 0 0 [] F O h1
    have hst : ∀ i (h : i < A.length), stampP (F + i) := fun i hi => by
      rcases readR_cases _ (readP_bok hg A[i]) _ _ _ _ (rfl : readR (readP d A[i]).2 = ((_, _), _, _)) with ⟨_, _, hsp, h⟩ | ⟨h, _⟩
      · have e := h3 i hi
        rw [← h] at e
        rw [lay_stamp e]; exact hsp
      · exact absurd (hs i hi) h
    have hf := hst 0 (by omega)
    have hll := hst (A.length - 1) (by omega)
    have e : getsP d kind (O.length : Int) 0 0 [] A = (O, 0) := gets_all (n := F) hk hf.1 (by have := hll.2; omega) (by rw [hl, h2]) (fun i hi => by rw [h3 i hi]; exact Prod.ext (hA _ (List.getElem_mem hi)) rfl)
    rw [h2] at e
    rw [hz] at e
    cases e
end Go.Proofs.Ytgfmpkcgkjpgnaa
end
