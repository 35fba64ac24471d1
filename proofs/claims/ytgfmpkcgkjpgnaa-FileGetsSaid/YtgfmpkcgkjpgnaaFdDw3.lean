/-
  THE WALK OF LAYER 20's STATEMENT FileGets.
-/
import Derived.Test.YtgfmpkcgkjpgnaaFj4
import Derived.Test.YtgfmpkcgkjpgnaaFj5
import Derived.Test.YtgfmpkcgkjpgnaaFi1
import Derived.Test.YtgfmpkcgkjpgnaaDv4
import Derived.Test.YtgfmpkcgkjpgnaaGood
section
namespace Go.Proofs.Ytgfmpkcgkjpgnaa
open Go.ChangeShapes Go.WideShapes Go.ChangeAt Go.RowKit Agg Pg Dv Fi
attribute [local go_sem] Oper.semAt_some

set_option maxHeartbeats 8000000 in
set_option maxRecDepth 100000 in
theorem gets_walk (x : DiskD) (fv hv cv : Value) (hx : DiskOk x) (fa : List Int) (fk : Int) (fb : List UInt8) (va vb : Value) (bytes : Int) (hy1 : -9223372036854775808 ≤ bytes) (hy2 : bytes ≤ 9223372036854775807) (w : World) (hf : Files w fv x.files) (hh : PgsD w hv x.held) (hc : PgsD w cv x.cache) (ha : Ints w va fa) (hb : Bytes w vb fb) :
    Calls Try.prog 6 #[.agg (diskC x fv hv cv).toArray, .agg #[va, .int .i64 fk, vb], .int .i64 bytes] w fun e w' => e = .returned (.bool true) ∧ Below w.heap.size w w' := by
  obtain ⟨fx, fc, rfl, _, _⟩ := hf.1.shape
  obtain ⟨hx1, hc1, rfl, _, _⟩ := hh.shape
  obtain ⟨cx, cc, rfl, _, _⟩ := hc.shape
  obtain ⟨ax, ac, rfl, _, _⟩ := ha.shape
  obtain ⟨bx, bc, rfl, _, _⟩ := hb.shape
  have HDK := Lib.hid (fun W (hW : Below w.heap.size w W) => disk_any x _ _ _ hx W (hf.keep hW) (SlR.keep hh hW) (SlR.keep hc hW))
  have HOW := Lib.hid (fun W (hW : Below w.heap.size w W) => fown_any fa fk fb _ _ W (SlR.keep ha hW) (SlR.keep hb hW))
  have hdg := diskD_good hx
  have hdc : (diskD x).cache.length ≤ 20 := cacheTo_len x _
  obtain ⟨D, hD⟩ : ∃ D, diskD x = D := ⟨_, rfl⟩
  obtain ⟨S, hS⟩ : ∃ S, diskS x = S := ⟨_, rfl⟩
  obtain ⟨A2, hA2⟩ : ∃ l, fa.take 20 = l := ⟨_, rfl⟩
  obtain ⟨B2, hB2⟩ : ∃ l, fb.take 2000 = l := ⟨_, rfl⟩
  have hla : A2.length ≤ 20 := by rw [← hA2, List.length_take]; omega
  have hlb : B2.length ≤ 2000 := by rw [← hB2, List.length_take]; omega
  rw [hD, hS] at HDK
  rw [hA2, hB2] at HOW
  rw [hD] at hdg hdc
  have HDG := Lib.hid hdg
  have HDC := Lib.hid hdc
  have HGT := Lib.hid (fun (kd n : Int) (h1 : -9223372036854775808 ≤ n) (h2 : n ≤ 9223372036854775807) W (dv av : Value) (hd : DevR W dv D) (ha : Ints W av A2) => Get_any D A2 kd n dv av W hdg (by omega) hd ha h1 h2 (by omega))
  have HRT := Lib.hid (fun (kd n : Int) (h1 : -9223372036854775808 ≤ n) (h2 : n ≤ 9223372036854775807) W (dv av : Value) (hd : DevR W dv D) (ha : Ints W av A2) => rfGet_any D A2 kd n dv av W hdg (by omega) hd ha h1 h2 (by omega))
  clear hf hh hc ha hb hx hA2 hB2 hD hS hdg hdc
  have HB := Lib.hid (Below.refl w.heap.size w)
  go_enter Try.func6, Try.ntmps6
  go_upto_region 1 with (fail)
  refine Agg.wp_at fun w1 hw1 => ?_
  have hb : Below w.heap.size w w1 := by rw [hw1.out]; repeat (first | exact Below.refl _ _ | refine Agg.bel_drew ?_ | refine Agg.bel_alloc ?_ _)
  replace HB := Lib.hid (HB.out.trans (hb.mono HB.out.size))
  clear hb
  have H1 : Hid (Blk w1 w.heap.size 38 (diskC x (.slice fx x.files.length fc) (.slice hx1 x.held.length hc1) (.slice cx x.cache.length cc))) := by show Blk _ _ _ _; rw [hw1.out]; exact (Blk.new w 38 (diskC x (.slice fx x.files.length fc) (.slice hx1 x.held.length hc1) (.slice cx x.cache.length cc)).toArray).al _
  have HY : Hid (Blk w1 (w.heap.size + 1) 41 [.slice ax fa.length ac, .int .i64 fk, .slice bx fb.length bc]) := by show Blk _ _ _ _; rw [hw1.out]; exact Blk.newAt (w.alloc _) 41 #[.slice ax fa.length ac, .int .i64 fk, .slice bx fb.length bc] _ (by simp)
  clear hw1
  have HL6 : Hid ((diskC x (.slice fx x.files.length fc) (.slice hx1 x.held.length hc1) (.slice cx x.cache.length cc)).length = 6) := Lib.hid rfl
  obtain ⟨dc, hdc⟩ : ∃ c, diskC x (.slice fx x.files.length fc) (.slice hx1 x.held.length hc1) (.slice cx x.cache.length cc) = c := ⟨_, rfl⟩
  rw [hdc] at H1 HL6 HDK
  clear hdc
  go_wp2_with fail
  refine (wakes_any w1).mono ?_
  rintro e w2 ⟨rfl, hb⟩
  replace HB := Lib.hid (HB.out.trans (hb.mono HB.out.size))
  replace H1 := Lib.hid (H1.out.keep hb)
  replace HY := Lib.hid (HY.out.keep hb)
  clear hb
  have h1 := H1.out
  go_wp2_with (refine Agg.gLoadB 6 h1 HL6.out rfl rfl rfl (by decide +kernel) ?_; simp only [Act.put, List.setIfInBounds_toArray, List.set_cons_succ, List.set_cons_zero])
  clear h1
  refine (HDK.out w2 HB.out).mono ?_
  rintro e w3 ⟨u1, rfl, hu1, hb⟩
  replace HB := Lib.hid (HB.out.trans (hb.mono HB.out.size))
  replace H1 := Lib.hid (H1.out.keep hb)
  replace HY := Lib.hid (HY.out.keep hb)
  clear hb
  have HD7 := Lib.hid hu1.read
  obtain ⟨px, pc, qx, qc, rfl⟩ := HD7.out.shape
  clear hu1
  go_upto_region 4 with (fail)
  refine Agg.wp_at fun w4 hw4 => ?_
  have hb : Below w3.heap.size w3 w4 := by rw [hw4.out]; repeat (first | exact Below.refl _ _ | refine Agg.bel_drew ?_ | refine Agg.bel_alloc ?_ _)
  replace HB := Lib.hid (HB.out.trans (hb.mono HB.out.size))
  replace H1 := Lib.hid (H1.out.keep hb)
  replace HY := Lib.hid (HY.out.keep hb)
  replace HD7 := Lib.hid (HD7.out.keep hb)
  clear hb
  have H7 : Hid (Blk w4 w3.heap.size 46 [.slice px D.pages.length pc, .slice qx D.cache.length qc, .int .i64 D.fuse, .bool D.off]) := by show Blk _ _ _ _; rw [hw4.out]; exact Blk.new w3 46 #[.slice px D.pages.length pc, .slice qx D.cache.length qc, .int .i64 D.fuse, .bool D.off]
  clear hw4
  generalize w3.heap.size = g7 at *
  have hy := HY.out
  go_wp2_with (refine Agg.gLoadB 3 hy rfl rfl rfl rfl (by decide +kernel) ?_; simp only [Act.put, List.setIfInBounds_toArray, List.set_cons_succ, List.set_cons_zero])
  clear hy
  refine (HOW.out w4 HB.out).mono ?_
  rintro e w5 ⟨u2, rfl, hu2, hb⟩
  replace HB := Lib.hid (HB.out.trans (hb.mono HB.out.size))
  replace H1 := Lib.hid (H1.out.keep hb)
  replace HY := Lib.hid (HY.out.keep hb)
  replace HD7 := Lib.hid (HD7.out.keep hb)
  replace H7 := Lib.hid (H7.out.keep hb)
  clear hb
  obtain ⟨ua, ub, rfl, hua, hub⟩ := hu2
  have HUA := Lib.hid (ownSl hua)
  have HUB := Lib.hid (ownSl hub)
  obtain ⟨xa, ca, rfl, _, _⟩ := (ownSl hua).shape
  obtain ⟨xb, cb, rfl, _, _⟩ := (ownSl hub).shape
  clear hua hub
  go_upto_region 5 with (fail)
  refine Agg.wp_at fun w6 hw6 => ?_
  have hb : Below w5.heap.size w5 w6 := by rw [hw6.out]; repeat (first | exact Below.refl _ _ | refine Agg.bel_drew ?_ | refine Agg.bel_alloc ?_ _)
  replace HB := Lib.hid (HB.out.trans (hb.mono HB.out.size))
  replace H1 := Lib.hid (H1.out.keep hb)
  replace HY := Lib.hid (HY.out.keep hb)
  replace HD7 := Lib.hid (HD7.out.keep hb)
  replace H7 := Lib.hid (H7.out.keep hb)
  replace HUA := Lib.hid (HUA.out.keep hb)
  replace HUB := Lib.hid (HUB.out.keep hb)
  clear hb
  have H9 : Hid (Blk w6 w5.heap.size 41 [.slice xa A2.length ca, .int .i64 fk, .slice xb B2.length cb]) := by show Blk _ _ _ _; rw [hw6.out]; exact Blk.new w5 41 #[.slice xa A2.length ca, .int .i64 fk, .slice xb B2.length cb]
  clear hw6
  generalize w5.heap.size = g9 at *
  have xH9_0 := H9.out.cell 0
  have xH9_1 := H9.out.cell 1
  have xH9_2 := H9.out.cell 2
  have lH9 := H9.out.lt
  simp only [List.getElem?_cons_zero, List.getElem?_cons_succ] at xH9_0 xH9_1 xH9_2
  go_upto_region 6 with (fail)
  clear xH9_0 xH9_1 xH9_2 lH9
  refine Agg.wp_at fun w7 hw7 => ?_
  have hb : Below w6.heap.size w6 w7 := by rw [hw7.out]; repeat (first | exact Below.refl _ _ | refine Agg.bel_drew ?_ | refine Agg.bel_alloc ?_ _)
  replace HB := Lib.hid (HB.out.trans (hb.mono HB.out.size))
  replace H1 := Lib.hid (H1.out.keep hb)
  replace HY := Lib.hid (HY.out.keep hb)
  replace HD7 := Lib.hid (HD7.out.keep hb)
  replace H7 := Lib.hid (H7.out.keep hb)
  replace HUA := Lib.hid (HUA.out.keep hb)
  replace HUB := Lib.hid (HUB.out.keep hb)
  replace H9 := Lib.hid (H9.out.keep hb)
  clear hb
  have HN : Hid (Blk w7 w6.heap.size 3 [.int .i64 bytes, .int .i64 (B2.length : Int)]) := by show Blk _ _ _ _; rw [hw7.out]; exact Blk.new w6 3 #[.int .i64 bytes, .int .i64 (B2.length : Int)]
  clear hw7
  have HNI : Hid (Ints w7 (.slice (some ⟨w6.heap.size, 0, none⟩) 2 2) [bytes, (B2.length : Int)]) := Lib.hid (SlR.ofBlk HN.out 0 2 2 _ rfl rfl (Nat.le_refl _) (by decide))
  generalize w6.heap.size = gn at *
  obtain ⟨N2, hN2⟩ : ∃ N, [bytes, (B2.length : Int)] = N := ⟨_, rfl⟩
  have hn2 : ∀ z ∈ N2, -9223372036854775808 ≤ z ∧ z ≤ 9223372036854775807 := by
    rw [← hN2]
    intro z hz
    simp only [List.mem_cons, List.not_mem_nil, or_false] at hz
    rcases hz with rfl | rfl <;> omega
  have hl2 : N2.length = 2 := by rw [← hN2]; rfl
  rw [hN2] at HNI
  have HN2 := Lib.hid hn2
  clear hN2 hn2 HN
  obtain ⟨wZ, hwZ⟩ : ∃ x, x = w7 := ⟨_, rfl⟩
  subst hwZ
  have H1Z := H1
  have HYZ := HY
  have HD7Z := HD7
  have H7Z := H7
  have HUAZ := HUA
  have HUBZ := HUB
  have H9Z := H9
  have HNIZ := HNI
  have HBZ := HB
  clear H1 HY HD7 H7 HUA HUB H9 HNI HB
  go_loopw [36] (fun ix wr => ∃ i : Nat, i ≤ 2 ∧ ix = .int .i64 i ∧ Below wZ.heap.size wZ wr) (fun ix _ => 2 - (intOf ix).toNat)
  case atStart => exact ⟨0, by omega, rfl, Below.refl _ _⟩
  case round =>
    obtain ⟨i, hi, rfl, hb⟩ := hrel
    have HB := Lib.hid (HBZ.out.trans (hb.mono HBZ.out.size))
    have HFZ : Hid (From wZ wr) := Lib.hid hb
    have H9 := Lib.hid (H9Z.out.keep hb)
    have HNI := Lib.hid (SlR.keep HNIZ.out hb)
    clear hb
    obtain ⟨wA, hwA⟩ : ∃ x, x = wr := ⟨_, rfl⟩
    subst hwA
    by_cases hlt : i < 2
    · have hin : i < N2.length := by omega
      have hcell := ints_at (l := N2) (n := 2) (cap := 2) (by have h := HNI.out; rw [← hl2]; rw [hl2]; exact h) hin
      obtain ⟨hz1, hz2⟩ := HN2.out _ (List.getElem_mem hin)
      obtain ⟨n, hn⟩ : ∃ z, N2[i] = z := ⟨_, rfl⟩
      rw [hn, Nat.zero_add] at hcell
      rw [hn] at hz1 hz2
      clear hn hin
      have xH9_0 := H9.out.cell 0
      have xH9_1 := H9.out.cell 1
      have xH9_2 := H9.out.cell 2
      have lH9 := H9.out.lt
      simp only [List.getElem?_cons_zero, List.getElem?_cons_succ] at xH9_0 xH9_1 xH9_2
      go_upto_region 9 with (fail)
      clear xH9_0 xH9_1 xH9_2 lH9
      clear hcell
      refine Agg.wp_at fun w61 hw61 => ?_
      have hb : Below wA.heap.size wA w61 := by rw [hw61.out]; repeat (first | exact Below.refl _ _ | refine Agg.bel_drew ?_ | refine Agg.bel_alloc ?_ _)
      replace HB := Lib.hid (HB.out.trans (hb.mono HB.out.size))
      replace HFZ := Lib.hid (HFZ.out.keep hb)
      replace H9 := Lib.hid (H9.out.keep hb)
      clear hb
      have HK : Hid (Blk w61 wA.heap.size 3 [.int .i64 fk, .int .i64 3, .int .i64 4]) := by show Blk _ _ _ _; rw [hw61.out]; exact Blk.new wA 3 #[.int .i64 fk, .int .i64 3, .int .i64 4]
      clear hw61
      have HKI : Hid (Ints w61 (.slice (some ⟨wA.heap.size, 0, none⟩) 3 3) [fk, 3, 4]) := Lib.hid (SlR.ofBlk HK.out 0 3 3 _ rfl rfl (Nat.le_refl _) (by decide))
      generalize wA.heap.size = gk at *
      obtain ⟨K3, hK3⟩ : ∃ N, [fk, 3, 4] = N := ⟨_, rfl⟩
      have hl3 : K3.length = 3 := by rw [← hK3]; rfl
      rw [hK3] at HKI
      clear hK3 HK H9 HNI
      obtain ⟨wY, hwY⟩ : ∃ x, x = w61 := ⟨_, rfl⟩
      subst hwY
      have HKIY := HKI
      have HFY := HFZ
      clear HKI HFZ HB
      go_loopw [44] (fun ix wr => ∃ j : Nat, j ≤ 3 ∧ ix = .int .i64 j ∧ Below wY.heap.size wY wr) (fun ix _ => 3 - (intOf ix).toNat)
      case atStart => exact ⟨0, by omega, rfl, Below.refl _ _⟩
      case round =>
        obtain ⟨j, hj, rfl, hb⟩ := hrel
        have hbz : Below wZ.heap.size wZ wr := HFY.out.trans (hb.mono HFY.out.size)
        have HB := Lib.hid (HBZ.out.trans (hbz.mono HBZ.out.size))
        have HFW : Hid (From wY wr) := Lib.hid hb
        have HFY0 : Hid (From wY wr) := Lib.hid hb
        have H9 := Lib.hid (H9Z.out.keep hbz)
        have H7 := Lib.hid (H7Z.out.keep hbz)
        have HD7 := Lib.hid (HD7Z.out.keep hbz)
        have HUA := Lib.hid (SlR.keep HUAZ.out hbz)
        have HKI := Lib.hid (SlR.keep HKIY.out hb)
        clear hb hbz
        obtain ⟨wA, hwA⟩ : ∃ x, x = wr := ⟨_, rfl⟩
        subst hwA
        by_cases hltj : j < 3
        · have hin : j < K3.length := by omega
          have hcell := ints_at (l := K3) (n := 3) (cap := 3) (by have h := HKI.out; rw [← hl3]; rw [hl3]; exact h) hin
          obtain ⟨kd, hkd⟩ : ∃ z, K3[j] = z := ⟨_, rfl⟩
          rw [hkd, Nat.zero_add] at hcell
          clear hkd hin
          have hgt := HGT.out kd n hz1 hz2
          have hrt := HRT.out kd n hz1 hz2
          obtain ⟨g, hg⟩ : ∃ g, fGet D A2 kd n = g := ⟨_, rfl⟩
          rw [hg] at hgt hrt
          have HGX := Lib.hid hgt
          have HRX := Lib.hid hrt
          clear hg hgt hrt HKI
          have HFA : Hid (From wA wA) := Lib.hid (Below.refl _ _)
          have xH9_0 := H9.out.cell 0
          have xH9_1 := H9.out.cell 1
          have xH9_2 := H9.out.cell 2
          have lH9 := H9.out.lt
          simp only [List.getElem?_cons_zero, List.getElem?_cons_succ] at xH9_0 xH9_1 xH9_2
          have h7 := H7.out
          go_wp2_with (refine Agg.gLoadB 4 h7 rfl rfl rfl rfl (by decide +kernel) ?_; simp only [Act.put, List.setIfInBounds_toArray, List.set_cons_succ, List.set_cons_zero])
          clear h7 hcell
          clear xH9_0 xH9_1 xH9_2 lH9
          refine (HGX.out wA _ _ HD7.out HUA.out).mono ?_
          rintro e w81 ⟨u4, rfl, hu4, hb⟩
          replace HB := Lib.hid (HB.out.trans (hb.mono HB.out.size))
          replace HFW := Lib.hid (HFW.out.keep hb)
          replace H9 := Lib.hid (H9.out.keep hb)
          replace H7 := Lib.hid (H7.out.keep hb)
          replace HD7 := Lib.hid (HD7.out.keep hb)
          replace HUA := Lib.hid (HUA.out.keep hb)
          replace HFA := Lib.hid (HFA.out.keep hb)
          clear hb
          obtain ⟨ux4, uc4, rfl, hu4a, hu4b⟩ := (ownSl hu4).shape
          have hu4c : g.1.length ≤ 9223372036854775807 := by have := hu4a; have := hu4b; unfold maxLen at *; omega
          have HU4C := Lib.hid hu4c
          clear hu4a hu4b hu4c
          have HU4 := Lib.hid hu4
          clear hu4 HGX
          have xH9_0 := H9.out.cell 0
          have xH9_1 := H9.out.cell 1
          have xH9_2 := H9.out.cell 2
          have lH9 := H9.out.lt
          simp only [List.getElem?_cons_zero, List.getElem?_cons_succ] at xH9_0 xH9_1 xH9_2
          have h7 := H7.out
          go_wp2_with (refine Agg.gLoadB 4 h7 rfl rfl rfl rfl (by decide +kernel) ?_; simp only [Act.put, List.setIfInBounds_toArray, List.set_cons_succ, List.set_cons_zero])
          clear h7
          clear xH9_0 xH9_1 xH9_2 lH9
          refine (HRX.out w81 _ _ HD7.out HUA.out).mono ?_
          rintro e w82 ⟨u5, rfl, hu5, hb⟩
          replace HB := Lib.hid (HB.out.trans (hb.mono HB.out.size))
          replace HFW := Lib.hid (HFW.out.keep hb)
          replace H9 := Lib.hid (H9.out.keep hb)
          replace H7 := Lib.hid (H7.out.keep hb)
          replace HD7 := Lib.hid (HD7.out.keep hb)
          replace HUA := Lib.hid (HUA.out.keep hb)
          replace HFA := Lib.hid (HFA.out.keep hb)
          replace HU4 := Lib.hid (HU4.out.keep hb)
          clear hb
          obtain ⟨ux5, uc5, rfl, _, _⟩ := hu5.shape
          have HU5 := Lib.hid hu5
          clear hu5 HRX
          have HUS := Lib.hid (ownSl HU4.out)
          go_upto_region 13 with (fail)
          refine Agg.listR 9 (by kernel_rfl) ?_
          simp only [List.take_succ_cons, List.take_zero, List.drop_succ_cons, List.drop_zero]
          refine Agg.chMove rfl rfl rfl rfl ?_
          refine Agg.chMove rfl rfl rfl rfl ?_
          refine Agg.chNe false (by simp) rfl rfl rfl rfl rfl ?_
          refine Agg.chMove rfl rfl rfl rfl ?_
          refine Agg.chMove rfl rfl rfl rfl ?_
          refine Agg.chMove rfl rfl rfl rfl ?_
          refine Agg.chCall Try.func25 rfl (by kernel_rfl) rfl rfl rfl rfl (fun W hb => eqY_any g.1 g.1 _ _ W (SlR.keep HUS.out hb) (SlR.keep HU5.out hb) true (by simp)) ?_
          refine Agg.chNot rfl rfl rfl rfl ?_
          refine Agg.chPick rfl rfl rfl rfl rfl ?_
          refine Agg.chEnd ?_
          intro vs w83 hb _
          show Exit.then _ _ Exit.normal _ _
          simp only [List.reverse, List.reverseAux, Agg.fill, List.set_cons_succ, List.set_cons_zero]
          replace HB := Lib.hid (HB.out.trans (hb.mono HB.out.size))
          replace HFW := Lib.hid (HFW.out.keep hb)
          replace H9 := Lib.hid (H9.out.keep hb)
          replace H7 := Lib.hid (H7.out.keep hb)
          replace HD7 := Lib.hid (HD7.out.keep hb)
          replace HUA := Lib.hid (HUA.out.keep hb)
          replace HFA := Lib.hid (HFA.out.keep hb)
          replace HU4 := Lib.hid (HU4.out.keep hb)
          replace HU5 := Lib.hid (HU5.out.keep hb)
          clear hb
          clear HUS HU5 H9 H7 HD7 HUA
          have HFWA := Lib.hid HFW.out
          have hgl := HU4.out
          obtain ⟨gl, hgle⟩ : ∃ l, g.1.length = l := ⟨_, rfl⟩
          have hg63 := HU4C.out
          rw [hgle] at hg63
          clear HU4C
          have HGL := Lib.hid hgle
          rw [hgle] at hgl
          rw [hgle]
          clear hgle HU4
          go_wp2_with fail
          go_loopw [77] (fun ix wr => ∃ (m : Nat) (l : List UInt8), m ≤ gl ∧ ix = .int .i64 m ∧ l.length = gl ∧ wr.ownsRow wA.heap.size 5 1 (.slice ux4 gl uc4) gl (bv l) ∧ Below wA.heap.size wA wr) (fun ix _ => gl - (intOf ix).toNat)
          case atStart => exact ⟨0, g.1, by omega, rfl, HGL.out, hgl, HFA.out⟩
          case round =>
            obtain ⟨m, l, hm, rfl, hl, ho, hb⟩ := hrel
            have HO := Lib.hid ho
            have HBb := Lib.hid hb
            have HLL := Lib.hid hl
            clear ho hb hgl hl
            obtain ⟨wC, hwC⟩ : ∃ x, x = wr := ⟨_, rfl⟩
            subst hwC
            by_cases hltm : m < gl
            · have ho := HO.out
              rcases ho.2 with ⟨_, h0⟩ | ⟨gb, cap, cur, hve, _, _, _, _, _, _⟩
              · omega
              · simp only [Value.slice.injEq] at hve
                obtain ⟨rfl, _, rfl⟩ := hve
                obtain ⟨r, hr1, hr2, hr3, hr4, hr5⟩ := own_blk ho
                have hml : m < l.length := by rw [HLL.out]; exact hltm
                have hcy : (bv l ++ r)[m]? = some (.int .u8 (l[m].toNat : Int)) := by
                  rw [List.getElem?_append_left (by rw [bv_length]; exact hml), bv_get l m hml]
                have hx : bits .xor .u8 (l[m].toNat : Int) 255 = ((l[m] ^^^ 255).toNat : Int) := by
                  have h := bits_xor .u8 l[m].toNat 255 rfl (l[m].toNat_lt) (by decide)
                  rw [UInt8.toNat_xor]; exact h
                have hspl : spliced (bv l ++ r) m [.int .u8 ((l[m] ^^^ 255).toNat : Int)] = bv (l.set m (l[m] ^^^ 255)) ++ r := by
                  rw [spliced_one _ _ _ (by rw [List.length_append, bv_length]; omega), List.set_append_left _ _ (by rw [bv_length]; exact hml)]
                  congr 1
                  unfold bv
                  rw [List.map_set]
                obtain ⟨y, hy⟩ : ∃ y, l[m] = y := ⟨_, rfl⟩
                rw [hy] at hcy hx hspl
                have HCY : Hid (wC.cell? ⟨gb, 0 + m, none⟩ = some (.int .u8 (y.toNat : Int))) := Lib.hid (by rw [hr1.cell, Nat.zero_add]; exact hcy)
                have hfit : m + 1 ≤ (bv l ++ r).length := by rw [List.length_append, bv_length]; omega
                have hlen2 : (bv (l.set m (y ^^^ 255)) ++ r).length = uc4 * 1 := by rw [List.length_append, bv_length, List.length_set]; rw [List.length_append, bv_length] at hr5; exact hr5
                have HR1 := Lib.hid hr1
                have HSPL := Lib.hid hspl
                clear hcy hspl hr1 hy ho HO hr5
                have hmg : (m : Int) < gl := by omega
                have HM1 : Hid (m + 1 ≤ gl ∧ gl - (m + 1) < gl - m) := Lib.hid (by omega)
                go_upto_region 18 with (fail)
                have HB := Lib.hid (Below.refl wC.heap.size wC)
                refine Agg.listR 6 (by kernel_rfl) ?_
                simp only [List.take_succ_cons, List.take_zero, List.drop_succ_cons, List.drop_zero]
                refine Agg.chMove rfl rfl rfl rfl ?_
                refine Agg.chMove rfl rfl rfl rfl ?_
                refine Agg.chIA ti25 (by omega) (by omega) rfl rfl rfl rfl rfl ?_
                refine Agg.chLoad rfl rfl rfl rfl (by decide +kernel) (by simp only [Int.toNat_natCast, Nat.mul_one]; exact HCY.out) ?_
                refine Agg.chBin (v := .int .u8 ((y ^^^ 255).toNat : Int)) rfl rfl rfl rfl rfl (fun _ => rfl) (fun w => run_xor_u8 5 _ _ _ hx w) ?_
                refine Agg.chIA ti25 (by omega) (by omega) rfl rfl rfl rfl rfl ?_
                refine Agg.chEnd ?_
                intro vs w111 hb hf
                simp only [List.reverse, List.reverseAux, Agg.Facts] at hf
                obtain _ := hf
                simp only [List.reverse, List.reverseAux, Agg.fill, List.set_cons_succ, List.set_cons_zero]
                simp only [Nat.zero_add, Int.toNat_natCast, Nat.mul_one]
                go_wp2_with (refine Agg.gStoreCell m (.int .u8 ((y ^^^ 255).toNat : Int)) (HR1.out.keep hb) rfl rfl rfl rfl rfl (by kernel_rfl) rfl hfit rfl (fun w13 hb13 hg13 => ?_))
                rw [HSPL.out] at hb13
                have hon := blk_own (xs := bv (l.set m (y ^^^ 255))) hb13 hr2 hr3 hr4 hlen2 (by rw [bv_length, List.length_set, HLL.out]; omega)
                have hbn := (HBb.out.trans (hb.mono HBb.out.size)).trans (grown_below hg13 (Nat.le_trans HBb.out.size hb.size) (fun q e => by cases e; exact hr2))
                exact ⟨⟨m + 1, l.set m (y ^^^ 255), HM1.out.1, by go_num, by rw [List.length_set, HLL.out], hon, hbn⟩, by simp [intOf]; have := HM1.out.2; omega⟩
            · obtain rfl : m = gl := by omega
              have hfn := HFWA.out
              have HFN : Hid (From wY wC) := Lib.hid (HFY0.out.trans (HBb.out.mono HFY0.out.size))
              clear HO HFA HFWA
              go_wp2_with fail
              refine ⟨?_, by simp [intOf]; omega⟩
              have hdi : decide ((i : Int) < 2) = true := by simp; omega
              rw [hdi]
              repeat apply Exists.intro
              exact ⟨⟨j + 1, by omega, by go_num, HFN.out⟩, rfl⟩
        · obtain rfl : j = 3 := by omega
          have hfz := HFY.out.trans (HFW.out.mono HFY.out.size)
          have HFX := Lib.hid hfz
          clear hfz
          go_wp2_with fail
          exact ⟨⟨i + 1, by omega, by go_num, HFX.out⟩, by simp [intOf]; omega⟩
    · obtain rfl : i = 2 := by omega
      have H1 := Lib.hid (H1Z.out.keep HFZ.out)
      have H7 := Lib.hid (H7Z.out.keep HFZ.out)
      have HD7 := Lib.hid (HD7Z.out.keep HFZ.out)
      clear H9 HNI HFZ
      have h1 := H1.out
      go_wp2_with (refine Agg.gLoadB 6 h1 HL6.out rfl rfl rfl (by decide +kernel) ?_; simp only [Act.put, List.setIfInBounds_toArray, List.set_cons_succ, List.set_cons_zero])
      clear h1 H1
      refine (HDK.out wA HB.out).mono ?_
      rintro e w121 ⟨u3, rfl, hu3, hb⟩
      replace HB := Lib.hid (HB.out.trans (hb.mono HB.out.size))
      replace H7 := Lib.hid (H7.out.keep hb)
      replace HD7 := Lib.hid (HD7.out.keep hb)
      clear hb
      have HD14 := Lib.hid hu3.read
      obtain ⟨px4, pc4, qx4, qc4, rfl⟩ := HD14.out.shape
      clear hu3
      go_upto_region 23 with (fail)
      refine Agg.wp_at fun w122 hw122 => ?_
      have hb : Below w121.heap.size w121 w122 := by rw [hw122.out]; repeat (first | exact Below.refl _ _ | refine Agg.bel_drew ?_ | refine Agg.bel_alloc ?_ _)
      replace HB := Lib.hid (HB.out.trans (hb.mono HB.out.size))
      replace H7 := Lib.hid (H7.out.keep hb)
      replace HD7 := Lib.hid (HD7.out.keep hb)
      replace HD14 := Lib.hid (HD14.out.keep hb)
      clear hb
      have H14 : Hid (Blk w122 w121.heap.size 46 [.slice px4 D.pages.length pc4, .slice qx4 D.cache.length qc4, .int .i64 D.fuse, .bool D.off]) := by show Blk _ _ _ _; rw [hw122.out]; exact Blk.new w121 46 #[.slice px4 D.pages.length pc4, .slice qx4 D.cache.length qc4, .int .i64 D.fuse, .bool D.off]
      clear hw122
      generalize w121.heap.size = g14 at *
      have h7 := H7.out
      have h14 := H14.out
      go_wp2_with (first
        | (refine Agg.gLoadB 4 h7 rfl rfl rfl rfl (by decide +kernel) ?_; simp only [Act.put, List.setIfInBounds_toArray, List.set_cons_succ, List.set_cons_zero])
        | (refine Agg.gLoadB 4 h14 rfl rfl rfl rfl (by decide +kernel) ?_; simp only [Act.put, List.setIfInBounds_toArray, List.set_cons_succ, List.set_cons_zero]))
      clear h7 h14
      refine (rSame_R HDG.out HDG.out HD7.out HD14.out true (by simp)).mono ?_
      rintro e w9 ⟨rfl, hb⟩
      replace HB := Lib.hid (HB.out.trans (hb.mono HB.out.size))
      clear hb
      go_wp2_with fail
      go_ret
      exact ⟨rfl, HB.out⟩
end Go.Proofs.Ytgfmpkcgkjpgnaa
end
section
/-
  DEVICES: what arguments of the statements hold.
-/
namespace Go.Proofs.Ytgfmpkcgkjpgnaa
open Go.ChangeShapes Go.WideShapes Go.ChangeAt Go.RowKit Agg Pg Dv

def FlOk (f : Fl) : Prop := f.Ok ∧ (Lit.int .i64 f.page).wf = true
theorem u64_nat {z : Int} (h : (Lit.int .u64 z).wf = true) : ∃ n : Nat, z = n ∧ n < 18446744073709551616 := by
  simp [Lit.wf, IntKind.min, IntKind.max, IntKind.signed, IntKind.bits] at h
  exact ⟨z.toNat, by omega, by omega⟩
theorem u8_byte {z : Int} (h : (Lit.int .u8 z).wf = true) : ∃ b : UInt8, z = b.toNat := by
  simp [Lit.wf, IntKind.min, IntKind.max, IntKind.signed, IntKind.bits] at h
  exact ⟨UInt8.ofNat z.toNat, by rw [UInt8.toNat_ofNat']; omega⟩
theorem good_int {w : World} {fuel : Nat} {v : Value} (h : Agg.Good Try.prog w fuel 3 [v]) : ∃ z : Int, v = .int .i64 z ∧ (Lit.int .i64 z).wf = true := by
  have hf := good_fits fuel 1 3 [some .i64] [v] (by kernel_rfl) h
  obtain ⟨x, r, he, ⟨z, rfl, hz⟩, _⟩ := Agg.Fits.cons hf
  simp only [List.cons.injEq] at he
  exact ⟨z, he.1, hz⟩
theorem good_bool {w : World} {fuel : Nat} {v : Value} (h : Agg.Good Try.prog w fuel 4 [v]) : ∃ z : Bool, v = .bool z := by
  have hf := good_fits fuel 1 4 [none] [v] (by kernel_rfl) h
  obtain ⟨x, r, he, ⟨z, rfl⟩, _⟩ := Agg.Fits.cons hf
  simp only [List.cons.injEq] at he
  exact ⟨z, he.1⟩
theorem iC_flat : ∀ l : List Int, iC l = l.flatMap (fun z => [Value.int .i64 z])
  | [] => rfl
  | a :: r => by rw [List.flatMap_cons, ← iC_flat r]; rfl
theorem good_ints {w : World} {fuel : Nat} {v : Value} (h : Agg.Good Try.prog w fuel 22 [v]) : ∃ l : List Int, Ints w v l ∧ (∀ z ∈ l, (Lit.int .i64 z).wf = true) ∧ l.length ≤ maxLen := by
  obtain ⟨l, h1, h2, h3⟩ := good_sl (α := Int) Try.underlying22 (sz := 1) (by kernel_rfl) (fun z => [.int .i64 z]) (fun z => (Lit.int .i64 z).wf = true) (fun _ => rfl) (fun fu cs hg => by
    have hf := good_fits fu 1 3 [some .i64] cs (by kernel_rfl) hg
    obtain ⟨x, r, rfl, ⟨z, rfl, hz⟩, hf2⟩ := Agg.Fits.cons hf
    rw [hf2.nil]
    exact ⟨z, rfl, hz⟩) h
  refine ⟨l, ?_, h2, h3⟩
  show SlR _ _ _ _ _
  have e := iC_flat l
  rw [e]; exact h1
/-- a device that is told, in memory -/
def LaidOk (w : World) (x : LaidD) (fv cv : Value) : Prop := Fls w fv x.fills ∧ Fls w cv x.cache ∧ (∀ f ∈ x.fills, FlOk f) ∧ ∀ f ∈ x.cache, FlOk f
theorem LaidOk.keep {w w' : World} {x : LaidD} {fv cv : Value} (h : LaidOk w x fv cv) (hb : Below w.heap.size w w') : LaidOk w' x fv cv := ⟨SlR.keep h.1 hb, SlR.keep h.2.1 hb, h.2.2⟩
/-- an op, in memory -/
def OpOk (w : World) (o : OpD) (mv : Value) : Prop := FlOk o.fl ∧ Ints w mv o.ms ∧ (Lit.int .i64 o.n).wf = true
theorem OpOk.keep {w w' : World} {o : OpD} {mv : Value} (h : OpOk w o mv) (hb : Below w.heap.size w w') : OpOk w' o mv := ⟨h.1, SlR.keep h.2.1 hb, h.2.2⟩
/-- ops in memory -/
def opsC (l : List (OpD × Value)) : List Value := l.flatMap fun x => opC x.1 x.2
def Opss (w : World) (v : Value) (l : List (OpD × Value)) : Prop := SlR w v 9 l.length (opsC l) ∧ ∀ x ∈ l, OpOk w x.1 x.2
theorem Opss.keep {w w' : World} {v : Value} {l : List (OpD × Value)} (h : Opss w v l) (hb : Below w.heap.size w w') : Opss w' v l := ⟨SlR.keep h.1 hb, fun x hx => (h.2 x hx).keep hb⟩
end Go.Proofs.Ytgfmpkcgkjpgnaa
end
