/-
  THE LOG: Put.
-/
import Derived.Test.YtlddjcilbpcciaaLgQ
import Derived.Test.YtlddjcilbpcciaaLg7
import Derived.Deep.CutBlock
namespace Go.Proofs.Ytlddjcilbpcciaa
open Go.ChangeShapes Go.WideShapes Go.ChangeAt Go.RowKit Agg Pg Dv Lg
attribute [local go_sem] Oper.semAt_some

/-- a device's cells in a block, and its rows -/
def DevK (w : World) (g : Nat) (d : Dev) : Prop := ∃ (px cx : Option Addr) (pc cc : Nat), Blk w g 28 [.slice px d.pages.length pc, .slice cx d.cache.length cc, .int .i64 d.fuse, .bool d.off] ∧ Pgs w (.slice px d.pages.length pc) d.pages ∧ Wrs w (.slice cx d.cache.length cc) d.cache
theorem DevK.keep {w w' : World} {g : Nat} {d : Dev} (h : DevK w g d) (hb : Below w.heap.size w w') : DevK w' g d := by
  obtain ⟨px, cx, pc, cc, h1, h2, h3⟩ := h
  exact ⟨px, cx, pc, cc, h1.keep hb, SlR.keep h2 hb, SlR.keep h3 hb⟩
set_option maxHeartbeats 8000000 in
set_option maxRecDepth 100000 in
theorem lput_any (d : Dev) (at0 : Int) (n : Nat) (B : List UInt8) (dv bv : Value) (w : World) (hd : DGood d) (hc : d.cache.length ≤ 10000) (hD : DevR w dv d) (hB : Bytes w bv B) (hbl : B.length ≤ 10000) (hn : n < 18446744073709551616) (ha1 : -9223372036854775808 ≤ at0) (ha2 : at0 ≤ 9223372036854775807) :
    Calls Try.prog 19 #[dv, .int .i64 at0, .int .u64 (n : Int), bv] w fun e w' => ∃ v, e = .returned (.tuple #[v, .int .i64 (putG d at0 n B).1]) ∧ DevO w.heap.size w' v (putG d at0 n B).2 ∧ Below w.heap.size w w' := by
  obtain ⟨bx, bc, rfl, _, _⟩ := SlR.shape hB
  obtain ⟨px, cx, pc, cc, rfl, hk2, hk3⟩ := hD
  have hD : DevR w (.agg #[.slice px d.pages.length pc, .slice cx d.cache.length cc, .int .i64 d.fuse, .bool d.off]) d := ⟨px, cx, pc, cc, rfl, hk2, hk3⟩
  have HPG0 := Lib.hid hk2
  have HWG0 := Lib.hid hk3
  have HB0 := Lib.hid hB
  have HD := Lib.hid hD
  have HDG := Lib.hid hd
  have HAS := Lib.hid (fun W v hv => asked_any d v W hd hv)
  have HFL0 := Lib.hid (fun W v hv => flush_R (w := W) (v := v) (d := d) hd (by omega) hv)
  have HCA := Lib.hid (askL_cases d)
  obtain ⟨G, hG⟩ : ∃ G, putG d at0 n B = G := ⟨_, rfl⟩
  have HG := Lib.hid hG
  rw [hG]
  obtain ⟨r, hr⟩ : ∃ r, askL d = r := ⟨_, rfl⟩
  obtain ⟨y, hy⟩ : ∃ y, whyG at0 n B = y := ⟨_, rfl⟩
  have HRE := Lib.hid hr
  have HPW := Lib.hid (putG_why d at0 n B)
  rw [hG] at HPW
  have HY := Lib.hid hy
  rw [hr] at HAS HCA
  clear hk2 hk3 hD hB hG hr hy
  have HB := Lib.hid (Below.refl w.heap.size w)
  go_enter Try.func19, Try.ntmps19
  go_upto_region 1 with (fail)
  refine Agg.wp_at fun w1 hw1 => ?_
  have hb : Below w.heap.size w w1 := by rw [hw1.out]; repeat (first | exact Below.refl _ _ | refine Agg.bel_drew ?_ | refine Agg.bel_alloc ?_ _)
  replace HB := Lib.hid (HB.out.trans (hb.mono HB.out.size))
  replace HD := Lib.hid (HD.out.keep hb)
  replace HB0 := Lib.hid (HB0.out.keep hb)
  clear hb
  have H4 : Hid (Blk w1 w.heap.size 28 [.slice px d.pages.length pc, .slice cx d.cache.length cc, .int .i64 d.fuse, .bool d.off]) := by show Blk _ _ _ _; rw [hw1.out]; exact (Blk.new w 28 #[.slice px d.pages.length pc, .slice cx d.cache.length cc, .int .i64 d.fuse, .bool d.off]).al _
  have H8 : Hid (Blk w1 (w.heap.size + 1) 28 [.slice none 0 0, .slice none 0 0, .int .i64 0, .bool false]) := by show Blk _ _ _ _; rw [hw1.out]; exact Blk.newAt (w.alloc _) 28 #[.slice none 0 0, .slice none 0 0, .int .i64 0, .bool false] _ (by simp)
  clear hw1
  have l8 := H8.out.lt
  have h4 := H4.out
  go_wp2_with (refine Agg.gLoadB 4 h4 rfl rfl rfl rfl (by decide +kernel) ?_; simp only [Act.put, List.setIfInBounds_toArray, List.set_cons_succ, List.set_cons_zero])
  clear h4
  refine (HAS.out w1 _ HD.out).mono ?_
  rintro e w2 ⟨rfl, hb⟩
  replace HB := Lib.hid (HB.out.trans (hb.mono HB.out.size))
  replace HD := Lib.hid (HD.out.keep hb)
  replace HB0 := Lib.hid (HB0.out.keep hb)
  replace H4 := Lib.hid (H4.out.keep hb)
  replace H8 := Lib.hid (H8.out.keep hb)
  clear hb
  go_upto_block 0 with (fail)
  obtain ⟨wZ, hwZ⟩ : ∃ x, x = w2 := ⟨_, rfl⟩
  subst hwZ
  have HBZ := HB
  have HDZ := HD
  have HB0Z := HB0
  have H4Z := H4
  have H8Z := H8
  clear HB HD HB0 H4 H8
  have HYB : Hid (r = 0 → ∀ {v}, whyG at0 n B = v → whyB d at0 n B = v) := Lib.hid (fun h v hv => by
    rcases whyB_cases d at0 n B with ⟨h1, h2⟩ | ⟨h1, h2⟩
    · rw [HRE.out] at h2; exact absurd h h2
    · rw [h2, hv])
  have HYA : Hid (r ≠ 0 → whyB d at0 n B = r) := Lib.hid (fun h => by
    rcases whyB_cases d at0 n B with ⟨h1, h2⟩ | ⟨h1, h2⟩
    · rw [h1, HRE.out]
    · rw [HRE.out] at h1; exact absurd h1 h)
  obtain ⟨z, hz⟩ : ∃ z, whyB d at0 n B = z := ⟨_, rfl⟩
  have HZ := Lib.hid hz
  rw [hz] at HYA HYB
  clear hz
  go_cut [10] from 15 to 53 (fun s10 wx => s10 = .int .i64 z ∧ Below wZ.heap.size wZ wx)
  case first =>
    have HB := Lib.hid (Below.refl wZ.heap.size wZ)
    by_cases hr0 : r = 0
    · subst hr0
      have hb1 := HYB.out rfl (v := 2)
      have hb2 := HYB.out rfl (v := 3)
      have hb3 := HYB.out rfl (v := 8)
      have hb4 := HYB.out rfl (v := 0)
      unfold whyG at hb1 hb2 hb3 hb4
      have HZ2 := Lib.hid (fun h => hb1 (if_pos h))
      have HZ3 := Lib.hid (fun h h2 => hb2 ((if_neg h).trans (if_pos h2)))
      have HZ8 := Lib.hid (fun h h2 h3 => hb3 ((if_neg h).trans ((if_neg h2).trans (if_pos h3))))
      have HZ0 := Lib.hid (fun h h2 h3 => hb4 ((if_neg h).trans ((if_neg h2).trans (if_neg h3))))
      clear hb1 hb2 hb3 hb4
      by_cases c1 : B.length = 0
      · obtain rfl := HZ2.out (.inl c1)
        have d1 : ((B.length : Int) == 0) = true := by rw [c1]; rfl
        clear c1
        go_wp2_with fail
        go_meet
        exact ⟨rfl, HB.out⟩
      · have d1 : ((B.length : Int) == 0) = false := beq_false_of_ne (by omega)
        have hcc1 := Lib.hid c1
        by_cases c2 : at0 < 0
        · obtain rfl := HZ2.out (by omega)
          go_wp2_with fail
          go_meet
          exact ⟨rfl, HB.out⟩
        · by_cases c3 : 16 < at0
          · obtain rfl := HZ2.out (by omega)
            go_wp2_with fail
            go_meet
            exact ⟨rfl, HB.out⟩
          · by_cases c4 : n < 1
            · obtain rfl := HZ2.out (by omega)
              go_wp2_with fail
              go_meet
              exact ⟨rfl, HB.out⟩
            · by_cases c5 : 4611686018427387904 < n
              · obtain rfl := HZ2.out (by omega)
                go_wp2_with fail
                go_meet
                exact ⟨rfl, HB.out⟩
              · have hc : ¬ (B.length = 0 ∨ at0 < 0 ∨ 16 < at0 ∨ n < 1 ∨ 4611686018427387904 < n) := by omega
                have HCC := Lib.hid hc
                clear hc
                go_wp2_with fail
                refine (need_any (B.length : Int) (by omega) (by omega) wZ).mono ?_
                rintro e w31 ⟨rfl, hb⟩
                replace HB := Lib.hid (HB.out.trans (hb.mono HB.out.size))
                clear hb
                obtain ⟨nd, hnd⟩ : ∃ x, needL (B.length : Int) = x := ⟨_, rfl⟩
                have hnd1 : 1 ≤ nd ∧ nd ≤ 10000 := by
                  rw [← hnd]; unfold needL; split <;> omega
                rw [hnd] at HZ3 HZ8 HZ0
                rw [hnd]
                by_cases c6 : 16 - at0 < nd
                · obtain rfl := HZ3.out HCC.out c6
                  go_wp2_with fail
                  go_meet
                  exact ⟨rfl, HB.out⟩
                · go_wp2_with fail
                  refine (need_any (B.length : Int) (by omega) (by omega) w31).mono ?_
                  rintro e w32 ⟨rfl, hb⟩
                  replace HB := Lib.hid (HB.out.trans (hb.mono HB.out.size))
                  clear hb
                  rw [hnd]
                  by_cases c7 : 4611686018427387904 - (n : Int) < nd - 1
                  · obtain rfl := HZ8.out HCC.out c6 c7
                    go_wp2_with fail
                    go_meet
                    exact ⟨rfl, HB.out⟩
                  · obtain rfl := HZ0.out HCC.out c6 (by omega)
                    go_wp2_with fail
                    go_meet
                    exact ⟨rfl, HB.out⟩
    · obtain rfl := HYA.out hr0
      have hrb : (z != 0) = true := bne_iff_ne.2 hr0
      go_wp2_with fail
      go_meet
      exact ⟨rfl, HB.out⟩
  case rest =>
    obtain ⟨rfl, hbc⟩ := hcut
    rw [HZ.out] at HPW
    have HB := Lib.hid (HBZ.out.trans (hbc.mono HBZ.out.size))
    have HD := Lib.hid (HDZ.out.keep hbc)
    have HB0 := Lib.hid (Agg.Bytes.keep HB0Z.out hbc)
    have H4 := Lib.hid (H4Z.out.keep hbc)
    have H8 := Lib.hid (H8Z.out.keep hbc)
    clear hbc HBZ HDZ HB0Z H4Z H8Z HYA HYB HCA HAS HY HRE HG
    by_cases h10 : z = 10
    · have hzb : (z == 10) = true := by simp [h10]
      have hGe := HPW.out.1 h10
      clear h10
      have h4 := H4.out
      go_upto_region 10 with (fail)
      go_wp2_with (refine Agg.gLoadB 4 h4 rfl rfl rfl rfl (by decide +kernel) ?_; simp only [Act.put, List.setIfInBounds_toArray, List.set_cons_succ, List.set_cons_zero])
      clear h4
      refine (HFL0.out wc _ HD.out).mono ?_
      rintro e w60 ⟨v, rfl, hdo, hb⟩
      rw [← hGe] at hdo ⊢
      obtain ⟨p, c, rfl, hpo, hco⟩ := hdo
      obtain ⟨px8, pc8, rfl, _, _⟩ := (ownSl hpo).shape
      obtain ⟨cx8, cc8, rfl, _, _⟩ := (ownSl hco).shape
      have h8 := H8.out.keep hb
      have hs60 : w.heap.size + 1 < wc.heap.size := H8.out.lt
      have hsw := HB.out.size
      clear hGe hzb
      go_wp2_with (refine Agg.gStoreB 4 [.slice px8 G.2.pages.length pc8, .slice cx8 G.2.cache.length cc8, .int .i64 G.2.fuse, .bool G.2.off] h8 rfl rfl rfl rfl rfl (by decide +kernel) rfl rfl (by simp [Value.oneCell']) (fun w14 hb14 hg14 => ?_))
      refine bodyPost_ret (results_row2 (m := 4) rfl hb14 rfl (by decide +kernel) rfl) rfl ⟨_, rfl, ⟨_, _, rfl, own_base (hpo.kept hg14 (own_off hpo hs60)) hsw, own_base (hco.kept hg14 (own_off hco hs60)) hsw⟩, ?_⟩
      have hb60 := HB.out.trans (hb.mono HB.out.size)
      exact hb60.trans (grown_below hg14 hb60.size (fun j hj => by cases hj; omega))
    · have hzb : (z == 10) = false := beq_false_of_ne h10
      by_cases h00 : z = 0
      · obtain ⟨hr0, hw0, hGe⟩ := HPW.out.2.2 h00
        subst h00
        obtain ⟨q1, q2, q3, q4, q5, q6, q7⟩ := whyG_zero hw0
        obtain ⟨a, rfl⟩ : ∃ a : Nat, at0 = (a : Int) := ⟨at0.toNat, by omega⟩
        rw [Int.toNat_natCast] at hGe
        have hmB := mG_eq B
        obtain ⟨mB, hmBe⟩ : ∃ m, mG B = m := ⟨_, rfl⟩
        rw [hmBe] at hmB q6 q7
        obtain ⟨PR, hPR⟩ : ∃ p, putsP d (wrsG a n B mB mB) = p := ⟨_, rfl⟩
        have hGv : G = if PR.1 ≠ 0 then PR else goesP PR.2 (flushP PR.2) := by rw [hGe, doG, hmBe, hPR]
        have HGV := Lib.hid hGv
        have HPR := Lib.hid hPR
        have HBK := Lib.hid (fun W h => blocks_any n B (.slice bx B.length bc) mB W h hbl hmB (by omega))
        have HPGw := Lib.hid (SlR.keep HPG0.out HB.out)
        have HWGw := Lib.hid (SlR.keep HWG0.out HB.out)
        clear hGe hGv hPR hmB hmBe hr0 hw0 h10 HPW HZ HFL0
        go_wp2_with fail
        have hsu : w.heap.size + 2 ≤ wc.heap.size := by have := H8.out.lt; omega
        refine (HBK.out wc HB0.out).mono ?_
        rintro e w61 ⟨u, rfl, hu, hb⟩
        replace HB := Lib.hid (HB.out.trans (hb.mono HB.out.size))
        replace HD := Lib.hid (HD.out.keep hb)
        replace HB0 := Lib.hid (HB0.out.keep hb)
        replace H4 := Lib.hid (H4.out.keep hb)
        replace H8 := Lib.hid (H8.out.keep hb)
        clear hb
        clear HBK HB0
        obtain ⟨ux, uc, rfl, _, _⟩ := (ownSl hu).shape
        have HU := Lib.hid hu
        have HK4 : Hid (DevK w61 w.heap.size d) := Lib.hid ⟨px, cx, pc, cc, H4.out, SlR.keep HPG0.out HB.out, SlR.keep HWG0.out HB.out⟩
        have HLU : Hid (∀ b ∈ blkG n B mB mB, (blkC b).length = 132) := Lib.hid (fun b hb => bok_cells (blkG_bok n B mB mB b hb))
        clear hu H4 HPGw HWGw HD
        go_wp2_with fail
        obtain ⟨wY, hwY⟩ : ∃ x, x = w61 := ⟨_, rfl⟩
        subst hwY
        have HBY := HB
        have H8Y := H8
        clear HB H8
        have hd := HDG.out
        go_loopw [68] (fun ix wr => ∃ (k : Nat) (dk : Dev), k ≤ mB ∧ ix = .int .i64 k ∧ DGood dk ∧ dk.cache.length ≤ 10000 + k ∧ putsP dk ((wrsG a n B mB mB).drop k) = PR ∧ DevK wr w.heap.size dk ∧ wY.grownBy wr (some w.heap.size)) (fun ix _ => mB - (intOf ix).toNat)
        case atStart => exact ⟨0, d, by omega, rfl, hd, by omega, HPR.out, HK4.out, World.grownBy.refl _ _⟩
        case round =>
          clear hd
          obtain ⟨k, dk, hk, rfl, hdk, hck, hrk, hlk, hgw⟩ := hrel
          have HDK := Lib.hid hdk
          have HGW := Lib.hid hgw
          have HB := Lib.hid (HBY.out.trans (grown_below hgw HBY.out.size (fun j e => by cases e; exact Nat.le_refl _)))
          have H8 := Lib.hid (H8Y.out.far' hgw (by omega))
          have HUW := Lib.hid (HU.out.kept hgw (own_off HU.out (by omega)))
          obtain ⟨px, cx, pc, cc, hk1, hk2, hk3⟩ := hlk
          have HK := Lib.hid hk1
          have HPG := Lib.hid hk2
          have HWG := Lib.hid hk3
          have HRK := Lib.hid hrk
          clear hdk hgw hk1 hk2 hk3 hrk HK4
          obtain ⟨wA, hwA⟩ : ∃ x, x = wr := ⟨_, rfl⟩
          subst hwA
          have hsA : w.heap.size + 2 ≤ wA.heap.size := by have := H8.out.lt; omega
          have HFA : Hid (From wA wA) := Lib.hid (Below.refl _ _)
          by_cases hlt : k < mB
          · have hst := HRK.out
            rw [wrsG_drop a n B mB k hlt, putsP] at hst
            have hul := ownSl HUW.out
            obtain ⟨ub, uo, uc', hve, _, _, _, _⟩ := SlR.pos hul (by decide) (by omega)
            simp only [Value.slice.injEq, true_and] at hve
            obtain ⟨rfl, rfl⟩ := hve
            have hi1 : k < (blkG n B mB mB).length := by rw [blkG_length]; exact hlt
            have hul2 : Blks wA (.slice (some ⟨ub, uo, none⟩) mB uc) (blkG n B mB mB) := by
              show SlR _ _ _ _ _
              rw [blkG_length]; exact hul
            have hcs := fun j v hv => blks_at hul2 HLU.out hi1 j v hv
            rw [blkG_get] at hcs
            have hbo := layL_bok (partL B mB k) (n + k)
            obtain ⟨bl, hbl2⟩ : ∃ y, layL (partL B mB k) (n + k) = y := ⟨_, rfl⟩
            rw [hbl2] at hst hcs hbo
            obtain ⟨g, hg⟩ : ∃ g, goesP dk (putP dk (2 + (a : Int) + (k : Int)) bl) = g := ⟨_, rfl⟩
            have hgg : DGood g.2 := by rw [← hg]; exact goesP_good HDK.out (putP_good HDK.out _ hbo)
            have hgc : g.2.cache.length ≤ 10000 + (k + 1) := by
              rw [← hg]
              exact goesP_len (by omega) (Nat.le_trans (putP_len1 dk _ bl) (by omega))
            rw [hg] at hst
            have HPUT := Lib.hid (fun W v hv => put_R (w := W) (v := v) HDK.out (by omega) hv (2 + (a : Int) + (k : Int)) hbo)
            rw [hg] at HPUT
            have HST := Lib.hid hst
            have HGG := Lib.hid hgg
            have HBO := Lib.hid hbo
            clear hst hul hul2 hi1 hbo hbl2 hg hgg HRK HUW
            have h132 := bok_cells HBO.out
            have hone := blkC_one bl
            go_upto_region 16 with (first
              | (refine Agg.gLoad 132 (blkC bl) rfl rfl rfl (by decide +kernel) h132 hcs ?_; simp only [Act.put, List.setIfInBounds_toArray, List.set_cons_succ, List.set_cons_zero])
              | (refine Agg.allocRow 54 (blkC zeroB).toArray rfl rfl (by kernel_rfl) ?_; simp only [Act.put, List.setIfInBounds_toArray, List.set_cons_succ, List.set_cons_zero])
              | (refine Agg.gStoreNew 132 (blkC bl) rfl rfl rfl rfl rfl rfl (by decide +kernel) h132 zero132 hone ?_; simp only [Act.put]))
            clear hcs
            refine Agg.wp_at fun w81 hw81 => ?_
            have hb : Below wA.heap.size wA w81 := by rw [hw81.out]; repeat (first | exact Below.refl _ _ | refine Agg.bel_drew ?_ | refine Agg.bel_alloc ?_ _)
            replace HB := Lib.hid (HB.out.trans (hb.mono HB.out.size))
            replace H8 := Lib.hid (H8.out.keep hb)
            replace HK := Lib.hid (HK.out.keep hb)
            replace HPG := Lib.hid (HPG.out.keep hb)
            replace HWG := Lib.hid (HWG.out.keep hb)
            replace HFA := Lib.hid (HFA.out.keep hb)
            clear hb
            have HX : Hid (Blk w81 wA.heap.size 54 (blkC bl)) := by show Blk _ _ _ _; rw [hw81.out]; exact Blk.new wA 54 (blkC bl).toArray
            clear hw81
            generalize wA.heap.size = g12 at *
            have hdv : DevR w81 (.agg #[.slice px dk.pages.length pc, .slice cx dk.cache.length cc, .int .i64 dk.fuse, .bool dk.off]) dk := ⟨px, cx, pc, cc, rfl, HPG.out, HWG.out⟩
            have HDV := Lib.hid hdv
            clear hdv
            have hx := HX.out
            have hk4 := HK.out
            go_wp2_with (first
              | (refine Agg.gLoadB 4 hk4 rfl rfl rfl rfl (by decide +kernel) ?_; simp only [Act.put, List.setIfInBounds_toArray, List.set_cons_succ, List.set_cons_zero])
              | (refine Agg.gLoadB 132 hx h132 rfl rfl rfl (by decide +kernel) ?_; simp only [Act.put, List.setIfInBounds_toArray, List.set_cons_succ, List.set_cons_zero]))
            clear hx hk4 h132 hone
            refine (HPUT.out w81 _ HDV.out).mono ?_
            rintro e w90 ⟨v, rfl, hdo, hb⟩
            obtain ⟨p9, c9, rfl, hp9, hc9⟩ := hdo
            obtain ⟨px9, pc9, rfl, _, _⟩ := (ownSl hp9).shape
            obtain ⟨cx9, cc9, rfl, _, _⟩ := (ownSl hc9).shape
            have hk9 := HK.out.keep hb
            have h89 := H8.out.keep hb
            have hsW : w.heap.size + 2 ≤ w81.heap.size := by have := H8.out.lt; omega
            have hbA9 : Below wA.heap.size wA w90 := Below.trans HFA.out (hb.mono (Below.size HFA.out))
            have hgY9 := grown_same HGW.out (below_grownBy hbA9 (some w.heap.size))
            have hb90 := HB.out.trans (hb.mono HB.out.size)
            have hst := HST.out
            clear hb hbA9
            by_cases hz : g.1 = 0
            · rw [hz] at hst ⊢
              rw [if_neg (by simp)] at hst
              have HST2 := Lib.hid hst
              clear hst HST hz
              go_wp2_with (refine Agg.gStoreB 4 [.slice px9 g.2.pages.length pc9, .slice cx9 g.2.cache.length cc9, .int .i64 g.2.fuse, .bool g.2.off] hk9 rfl rfl rfl rfl rfl (by decide +kernel) rfl rfl (by simp [Value.oneCell']) (fun w95 hb95 hg95 => ?_))
              have hp95 := ownSl (hp9.kept hg95 (own_off hp9 (by omega)))
              have hc95 := ownSl (hc9.kept hg95 (own_off hc9 (by omega)))
              exact ⟨⟨k + 1, g.2, by omega, by go_num, HGG.out, hgc, HST2.out, ⟨_, _, _, _, hb95, hp95, hc95⟩, grown_same hgY9 hg95⟩, by simp [intOf]; omega⟩
            · have hzb : (g.1 != 0) = true := bne_iff_ne.2 hz
              rw [if_pos hz] at hst
              have hgv := HGV.out
              rw [← hst, if_pos hz] at hgv
              subst hgv
              clear hst HST hz HGV HPR
              go_wp2_with (first
                | (refine Agg.gStoreB 4 [.slice px9 G.2.pages.length pc9, .slice cx9 G.2.cache.length cc9, .int .i64 G.2.fuse, .bool G.2.off] hk9 rfl rfl rfl rfl rfl (by decide +kernel) rfl rfl (by simp [Value.oneCell']) (fun w95 hb95 hg95 => ?_); clear hk9)
                | (refine Agg.gLoadB 4 hb95 rfl rfl rfl rfl (by decide +kernel) ?_; simp only [Act.put, List.setIfInBounds_toArray, List.set_cons_succ, List.set_cons_zero])
                | (refine Agg.gStoreB 4 [.slice px9 G.2.pages.length pc9, .slice cx9 G.2.cache.length cc9, .int .i64 G.2.fuse, .bool G.2.off] (h89.far' hg95 (by omega)) rfl rfl rfl rfl rfl (by decide +kernel) rfl rfl (by simp [Value.oneCell']) (fun w96 hb96 hg96 => ?_)))
              have hp95 := hp9.kept hg95 (own_off hp9 (by omega))
              have hc95 := hc9.kept hg95 (own_off hc9 (by omega))
              have hp96 := hp95.kept hg96 (own_off hp95 (by omega))
              have hc96 := hc95.kept hg96 (own_off hc95 (by omega))
              have hb96x := (hb90.trans (grown_below hg95 hb90.size (fun j hj => by cases hj; exact Nat.le_refl _)))
              have hsz95 := hb96x.size
              refine bodyPost_ret (results_row2 (m := 4) rfl hb96 rfl (by decide +kernel) rfl) rfl ⟨_, rfl, ⟨_, _, rfl, own_base hp96 (by omega), own_base hc96 (by omega)⟩, ?_⟩
              exact hb96x.trans (grown_below hg96 hb96x.size (fun j hj => by cases hj; omega))
          · obtain rfl : k = mB := by omega
            have hst := HRK.out
            rw [List.drop_of_length_le (by rw [wrsG_length]; exact Nat.le_refl _), putsP] at hst
            have hgv := HGV.out
            rw [← hst, if_neg (by simp)] at hgv
            have HFL := Lib.hid (fun W v hv => flush_R (w := W) (v := v) (d := dk) HDK.out (by omega) hv)
            dsimp only at hgv
            rw [← hgv] at HFL
            have HDV : Hid (DevR wA (.agg #[.slice px dk.pages.length pc, .slice cx dk.cache.length cc, .int .i64 dk.fuse, .bool dk.off]) dk) := Lib.hid ⟨px, cx, pc, cc, rfl, HPG.out, HWG.out⟩
            clear hst HRK HGV HPR HUW hgv
            have hk4 := HK.out
            go_wp2_with (refine Agg.gLoadB 4 hk4 rfl rfl rfl rfl (by decide +kernel) ?_; simp only [Act.put, List.setIfInBounds_toArray, List.set_cons_succ, List.set_cons_zero])
            clear hk4
            refine (HFL.out wA _ HDV.out).mono ?_
            rintro e w90 ⟨v, rfl, hdo, hb⟩
            obtain ⟨p, c, rfl, hpo, hco⟩ := hdo
            obtain ⟨px8, pc8, rfl, _, _⟩ := (ownSl hpo).shape
            obtain ⟨cx8, cc8, rfl, _, _⟩ := (ownSl hco).shape
            have h8 := H8.out.keep hb
            go_wp2_with (refine Agg.gStoreB 4 [.slice px8 G.2.pages.length pc8, .slice cx8 G.2.cache.length cc8, .int .i64 G.2.fuse, .bool G.2.off] h8 rfl rfl rfl rfl rfl (by decide +kernel) rfl rfl (by simp [Value.oneCell']) (fun w14 hb14 hg14 => ?_))
            refine bodyPost_ret (results_row2 (m := 4) rfl hb14 rfl (by decide +kernel) rfl) rfl ⟨_, rfl, ⟨_, _, rfl, own_base (hpo.kept hg14 (own_off hpo (by omega))) (by omega), own_base (hco.kept hg14 (own_off hco (by omega))) (by omega)⟩, ?_⟩
            have hb60 := HB.out.trans (hb.mono HB.out.size)
            exact hb60.trans (grown_below hg14 hb60.size (fun j hj => by cases hj; omega))
      · have hz0 : (z != 0) = true := bne_iff_ne.2 h00
        have hGe := HPW.out.2.1 h10 h00
        subst hGe
        clear h10 h00
        have h8 := H8.out
        go_wp2_with (refine Agg.gStoreB 4 [.slice none 0 0, .slice none 0 0, .int .i64 0, .bool false] h8 rfl rfl rfl rfl rfl (by decide +kernel) rfl rfl (by simp [Value.oneCell']) (fun w14 hb14 hg14 => ?_))
        refine bodyPost_ret (results_row2 (m := 4) rfl hb14 rfl (by decide +kernel) rfl) rfl ⟨_, rfl, ?_, ?_⟩
        · exact devO_zero _ _
        · exact HB.out.trans (grown_below hg14 HB.out.size (fun j hj => by cases hj; omega))
end Go.Proofs.Ytlddjcilbpcciaa
