/-
  ROOTS: does the layer do anything?
-/
import Derived.Test.YtjnnnnolikbjcaaRtH
import Derived.Test.YtjnnnnolikbjcaaRtI
import Derived.Test.YtjnnnnolikbjcaaRt1
import Derived.Test.YtjnnnnolikbjcaaRFdDw3
import Derived.Test.YtjnnnnolikbjcaaGood
section
namespace Go.Proofs.Ytjnnnnolikbjcaa
open Go.ChangeShapes Go.WideShapes Go.ChangeAt Go.RowKit Agg Pg Dv
attribute [local go_sem] Oper.semAt_some

set_option maxRecDepth 100000 in
theorem bEqual_any (l m : List UInt8) (u v : Value) (w : World) (hu : Bytes w u l) (hv : Bytes w v m) (r : Bool) (hr : decide (l = m) = r) :
    Calls Try.prog 27 #[u, v] w fun e w' => e = .returned (.bool r) ∧ Below w.heap.size w w' := by
  obtain ⟨x, cap, rfl, hc, hm⟩ := SlR.shape hu
  obtain ⟨y, dap, rfl, hd, hn⟩ := SlR.shape hv
  have hc3 : cap ≤ 9223372036854775807 := by unfold maxLen at hm; omega
  have hd3 : dap ≤ 9223372036854775807 := by unfold maxLen at hn; omega
  have h1 := conv_str hu
  have h2 := conv_str hv
  have HE := Lib.hid ((strB_inj l m).trans hr)
  clear hu hv hm hn hr
  generalize strB l = s1 at *
  generalize strB m = s2 at *
  have HB := Lib.hid (Below.refl w.heap.size w)
  go_enter Try.func27, Try.ntmps27
  go_wp2_with fail
  go_ret
  exact ⟨by rw [← HE.out]; rfl, HB.out⟩

set_option maxHeartbeats 8000000 in
set_option maxRecDepth 100000 in
theorem wakes_any (w : World) : Calls Try.prog 9 #[] w fun e w' => e = .returned (.bool true) ∧ Below w.heap.size w w' := by
  have HN : Hid (∀ W, Calls Try.prog 10 #[.int .i64 24] W fun e w' => ∃ u, e = .returned (.tuple #[u, .int .i64 0]) ∧ DevO W.heap.size w' u wk0 ∧ Below W.heap.size W w') := Lib.hid (fun W => new_R 24 (by decide) (by decide) W)
  have hl0 : wk0.cache.length ≤ 100 := by decide
  have hl1 : wk1.cache.length ≤ 100 := Nat.zero_le _
  have hl2 : wk2.cache.length ≤ 100 := Nat.zero_le _
  have HF0 := Lib.hid (fun W v h => find_any wk0 v W wk0_good (by omega) h rt0 331 (by rw [pow_why wk0_pow, if_neg (by decide), wk0_find]; rfl) (by rw [pow_why wk0_pow, if_neg (by decide), wk0_find]; rfl))
  have HF2 := Lib.hid (fun W v h => find_any wk2 v W wk2_good (by omega) h wkB 0 (by rw [pow_why wk2_ok.2, if_neg (by decide), wk2_find]; rfl) (by rw [pow_why wk2_ok.2, if_neg (by decide), wk2_find]; rfl))
  have HDA : Hid (∀ W v, RtR W v wkA → Calls Try.prog 26 #[v] W fun e w' => ∃ u, e = .returned (.tuple #[u, .int .i64 0]) ∧ Bytes w' u [2, 0, 20, 0, 21, 0, 0, 0, 130] ∧ Below W.heap.size W w') := Lib.hid (fun W v h => by
    have := rtData_any wkA v W h (rtw_of wkA_r)
    rw [(right_iff _).2 wkA_r, if_pos rfl, if_pos rfl, wkA_d] at this
    exact this)
  have HP1 := Lib.hid (fun W u v h1 h2 => rtPut_any wk0 wkA u v W wk0_good (by omega) h1 h2 (rtw_of wkA_r) 0 wk1 wk1_ok.1)
  have HP2 := Lib.hid (fun W u v h1 h2 => rtPut_any wk1 wkB u v W wk1_good (by omega) h1 h2 (rtw_of wkB_r) 0 wk2 wk2_ok.1)
  clear hl0 hl1 hl2
  obtain ⟨D0, hD0⟩ : ∃ D, wk0 = D := ⟨_, rfl⟩
  obtain ⟨D1, hD1⟩ : ∃ D, wk1 = D := ⟨_, rfl⟩
  obtain ⟨D2, hD2⟩ : ∃ D, wk2 = D := ⟨_, rfl⟩
  rw [hD0] at HN HF0 HP1
  rw [hD1] at HP1 HP2
  rw [hD2] at HP2 HF2
  clear hD0 hD1 hD2
  have HB := Lib.hid (Below.refl w.heap.size w)
  go_enter Try.func9, Try.ntmps9
  go_wp2_with fail
  refine (HN.out w).mono ?_
  rintro e w1 ⟨u, rfl, hu, hb⟩
  replace HB := Lib.hid (HB.out.trans (hb.mono HB.out.size))
  clear hb
  have HU := Lib.hid hu.read
  obtain ⟨px, pc, cx, cc, rfl⟩ := DevR.shape HU.out
  clear hu HN
  go_upto_region 2 with (first
    | (refine Agg.allocRow 30 #[.slice none 0 0, .slice none 0 0, .int .i64 0, .bool false] rfl rfl (by kernel_rfl) ?_; simp only [Act.put, List.setIfInBounds_toArray, List.set_cons_succ, List.set_cons_zero])
    | (refine Agg.gStoreNew 4 [.slice px D0.pages.length pc, .slice cx D0.cache.length cc, .int .i64 D0.fuse, .bool D0.off] rfl rfl rfl rfl rfl rfl (by decide +kernel) rfl rfl (by simp [Value.oneCell']) ?_; simp only [Act.put]))
  have hgg := HB.out.size
  refine Agg.wp_at fun w2 hw2 => ?_
  have hb : Below w1.heap.size w1 w2 := by rw [hw2.out]; repeat (first | exact Below.refl _ _ | refine Agg.bel_drew ?_ | refine Agg.bel_alloc ?_ _)
  replace HB := Lib.hid (HB.out.trans (hb.mono HB.out.size))
  replace HU := Lib.hid (HU.out.keep hb)
  clear hb
  have H1 : Hid (Blk w2 w1.heap.size 30 [.slice px D0.pages.length pc, .slice cx D0.cache.length cc, .int .i64 D0.fuse, .bool D0.off]) := by show Blk _ _ _ _; rw [hw2.out]; exact Blk.new w1 30 #[.slice px D0.pages.length pc, .slice cx D0.cache.length cc, .int .i64 D0.fuse, .bool D0.off]
  clear hw2
  generalize w1.heap.size = g1 at *
  have h1 := H1.out
  go_wp2_with (refine Agg.gLoadB 4 h1 rfl rfl rfl rfl (by decide +kernel) ?_; simp only [Act.put, List.setIfInBounds_toArray, List.set_cons_succ, List.set_cons_zero])
  clear h1
  refine (HF0.out w2 _ HU.out).mono ?_
  rintro e w3 ⟨v, rfl, hv, hb⟩
  replace HB := Lib.hid (HB.out.trans (hb.mono HB.out.size))
  replace HU := Lib.hid (HU.out.keep hb)
  replace H1 := Lib.hid (H1.out.keep hb)
  clear hb
  obtain ⟨sl, hvv, hvo⟩ := hv
  obtain ⟨x0, c0, rfl, _, _⟩ := (ownSl hvo).shape
  have hv2 : v = .agg #[.int .i64 0, .int .u64 0, .slice x0 0 c0, .int .i64 0] := hvv
  subst hv2
  clear hvo HF0 hvv
  go_upto_region 3 with (first
    | (refine Agg.allocRow 26 #[.int .i64 0, .int .u64 0, .slice none 0 0, .int .i64 0] rfl rfl (by kernel_rfl) ?_; simp only [Act.put, List.setIfInBounds_toArray, List.set_cons_succ, List.set_cons_zero])
    | (refine Agg.gStoreNew 4 [.int .i64 0, .int .u64 0, .slice x0 0 c0, .int .i64 0] rfl rfl rfl rfl rfl rfl (by decide +kernel) rfl rfl (by simp [Value.oneCell']) ?_; simp only [Act.put]))
  refine Agg.wp_at fun w4 hw4 => ?_
  have hb : Below w3.heap.size w3 w4 := by rw [hw4.out]; repeat (first | exact Below.refl _ _ | refine Agg.bel_drew ?_ | refine Agg.bel_alloc ?_ _)
  replace HB := Lib.hid (HB.out.trans (hb.mono HB.out.size))
  replace HU := Lib.hid (HU.out.keep hb)
  replace H1 := Lib.hid (H1.out.keep hb)
  clear hb
  clear hw4
  have hsz0 := HB.out.size
  have hl1 := H1.out.lt
  go_upto_region 4 with (first
    | (refine Agg.allocRow 26 #[.int .i64 0, .int .u64 0, .slice none 0 0, .int .i64 0] rfl rfl (by kernel_rfl) ?_; simp only [Act.put, List.setIfInBounds_toArray, List.set_cons_succ, List.set_cons_zero])
    | (refine Agg.gStoreNew 4 [.int .i64 1, .int .u64 9, .slice (some ⟨w4.heap.size, 0, none⟩) 2 2, .int .i64 130] rfl rfl rfl rfl rfl rfl (by decide +kernel) rfl rfl (by simp [Value.oneCell']) ?_; simp only [Act.put]))
  refine Agg.wp_at fun w5 hw5 => ?_
  have hb : Below w4.heap.size w4 w5 := by rw [hw5.out]; repeat (first | exact Below.refl _ _ | refine Agg.bel_drew ?_ | refine Agg.bel_alloc ?_ _)
  replace HB := Lib.hid (HB.out.trans (hb.mono HB.out.size))
  replace HU := Lib.hid (HU.out.keep hb)
  replace H1 := Lib.hid (H1.out.keep hb)
  clear hb
  have HS5 : Hid (Blk w5 w4.heap.size 3 [.int .i64 20, .int .i64 21]) := by show Blk _ _ _ _; rw [hw5.out]; exact (Blk.new w4 3 #[.int .i64 20, .int .i64 21]).al _
  have H5 : Hid (Blk w5 (w4.heap.size + 1) 26 [.int .i64 1, .int .u64 9, .slice (some ⟨w4.heap.size, 0, none⟩) 2 2, .int .i64 130]) := by show Blk _ _ _ _; rw [hw5.out]; exact Blk.newAt (w4.alloc _) 26 #[.int .i64 1, .int .u64 9, .slice (some ⟨w4.heap.size, 0, none⟩) 2 2, .int .i64 130] _ (by simp)
  clear hw5
  try simp only [World.size_alloc]
  generalize w4.heap.size = g5 at *
  have HRA : Hid (RtR w5 (.agg #[.int .i64 1, .int .u64 9, .slice (some ⟨g5, 0, none⟩) 2 2, .int .i64 130]) wkA) := Lib.hid ⟨.slice (some ⟨g5, 0, none⟩) 2 2, rfl, SlR.ofBlk HS5.out 0 2 2 _ rfl rfl (Nat.le_refl _) (by unfold maxLen; decide)⟩
  have h5 := H5.out
  go_wp2_with (refine Agg.gLoadB 4 h5 rfl rfl rfl rfl (by decide +kernel) ?_; simp only [Act.put, List.setIfInBounds_toArray, List.set_cons_succ, List.set_cons_zero])
  clear h5
  refine (HDA.out w5 _ HRA.out).mono ?_
  rintro e w6 ⟨u, rfl, hu, hb⟩
  replace HB := Lib.hid (HB.out.trans (hb.mono HB.out.size))
  replace HU := Lib.hid (HU.out.keep hb)
  replace H1 := Lib.hid (H1.out.keep hb)
  replace H5 := Lib.hid (H5.out.keep hb)
  replace HRA := Lib.hid (HRA.out.keep hb)
  clear hb
  have HUB := Lib.hid hu
  obtain ⟨ux, uc, rfl, _, _⟩ := SlR.shape hu
  clear hu HDA
  go_upto_region 5 with (fail)
  have h1 := H1.out
  have h5 := H5.out
  go_wp2_with (first
    | (refine Agg.gLoadB 4 h1 rfl rfl rfl rfl (by decide +kernel) ?_; simp only [Act.put, List.setIfInBounds_toArray, List.set_cons_succ, List.set_cons_zero])
    | (refine Agg.gLoadB 4 h5 rfl rfl rfl rfl (by decide +kernel) ?_; simp only [Act.put, List.setIfInBounds_toArray, List.set_cons_succ, List.set_cons_zero]))
  clear h1 h5
  have hsz1 := HB.out.size
  have hl1' := H1.out.lt
  refine (HP1.out w6 _ _ HU.out HRA.out).mono ?_
  rintro e w7 ⟨u, rfl, hu, hb⟩
  replace HB := Lib.hid (HB.out.trans (hb.mono HB.out.size))
  replace HU := Lib.hid (HU.out.keep hb)
  replace H1 := Lib.hid (H1.out.keep hb)
  replace H5 := Lib.hid (H5.out.keep hb)
  replace HRA := Lib.hid (HRA.out.keep hb)
  replace HUB := Lib.hid (HUB.out.keep hb)
  clear hb
  obtain ⟨px2, pc2, cx2, cc2, rfl⟩ := DevR.shape hu.read
  have h1 := H1.out
  have hub := HUB.out
  have hszB := HB.out.size
  clear HP1 HRA H5 HU
  go_upto_region 6 with (refine Agg.gStoreB 4 [.slice px2 D1.pages.length pc2, .slice cx2 D1.cache.length cc2, .int .i64 D1.fuse, .bool D1.off] h1 rfl rfl rfl rfl rfl (by decide +kernel) rfl rfl (by simp [Value.oneCell']) (fun w31 hb31 hg31 => ?_))
  have HU2 : Hid (DevR w31 (.agg #[.slice px2 D1.pages.length pc2, .slice cx2 D1.cache.length cc2, .int .i64 D1.fuse, .bool D1.off]) D1) := Lib.hid (devO_far hu h1 (by decide) (by decide) hg31).read
  have H12 := Lib.hid hb31
  have HUB2 : Hid (Bytes w31 (.slice ux 9 uc) [2, 0, 20, 0, 21, 0, 0, 0, 130]) := Lib.hid (Bytes.far hub h1 (fun i z => by
    match i with
    | 0 => simp
    | 1 => simp
    | 2 => simp
    | 3 => simp
    | n + 4 => simp) hg31)
  have HB2 := Lib.hid (HB.out.trans (grown_below hg31 hszB (fun j hj => by cases hj; omega)))
  clear hu h1 hub hszB hb31 hg31 H1 HUB HB hsz1 hl1'
  have HB := HB2
  have h1 := H12.out
  go_wp2_with (refine Agg.gLoadB 4 h1 rfl rfl rfl rfl (by decide +kernel) ?_; simp only [Act.put, List.setIfInBounds_toArray, List.set_cons_succ, List.set_cons_zero])
  clear h1
  refine Agg.calls_at fun w41 hw41 => ?_
  have hb : Below w31.heap.size w31 w41 := by rw [hw41.out]; repeat (first | exact Below.refl _ _ | refine Agg.bel_drew ?_ | refine Agg.bel_alloc ?_ _)
  replace HB := Lib.hid (HB.out.trans (hb.mono HB.out.size))
  replace HU2 := Lib.hid (HU2.out.keep hb)
  replace H12 := Lib.hid (H12.out.keep hb)
  replace HUB2 := Lib.hid (HUB2.out.keep hb)
  clear hb
  have HA : Hid (Blk w41 w31.heap.size 3 [.int .i64 22]) := by show Blk _ _ _ _; rw [hw41.out]; exact Blk.new w31 3 #[.int .i64 22]
  clear hw41
  have HRB : Hid (RtR w41 (.agg #[.int .i64 0, .int .u64 12, .slice (some ⟨w31.heap.size, 0, none⟩) 1 1, .int .i64 5]) wkB) := Lib.hid ⟨.slice (some ⟨w31.heap.size, 0, none⟩) 1 1, rfl, SlR.ofBlk HA.out 0 1 1 _ rfl rfl (Nat.le_refl _) (by unfold maxLen; decide)⟩
  generalize w31.heap.size = ga at *
  have hlX := H12.out.lt
  have hszX := HB.out.size
  refine (HP2.out w41 _ _ HU2.out HRB.out).mono ?_
  rintro e w42 ⟨u, rfl, hu, hb⟩
  replace HB := Lib.hid (HB.out.trans (hb.mono HB.out.size))
  replace HU2 := Lib.hid (HU2.out.keep hb)
  replace H12 := Lib.hid (H12.out.keep hb)
  replace HUB2 := Lib.hid (HUB2.out.keep hb)
  clear hb
  obtain ⟨px3, pc3, cx3, cc3, rfl⟩ := DevR.shape hu.read
  have h1 := H12.out
  have hub := HUB2.out
  have hszB := HB.out.size
  clear HP2 HRB HA HU2
  go_upto_region 7 with (refine Agg.gStoreB 4 [.slice px3 D2.pages.length pc3, .slice cx3 D2.cache.length cc3, .int .i64 D2.fuse, .bool D2.off] h1 rfl rfl rfl rfl rfl (by decide +kernel) rfl rfl (by simp [Value.oneCell']) (fun w51 hb51 hg51 => ?_))
  have HU3 : Hid (DevR w51 (.agg #[.slice px3 D2.pages.length pc3, .slice cx3 D2.cache.length cc3, .int .i64 D2.fuse, .bool D2.off]) D2) := Lib.hid (devO_far hu h1 (by decide) (by decide) hg51).read
  have H13 := Lib.hid hb51
  have HUB3 : Hid (Bytes w51 (.slice ux 9 uc) [2, 0, 20, 0, 21, 0, 0, 0, 130]) := Lib.hid (Bytes.far hub h1 (fun i z => by
    match i with
    | 0 => simp
    | 1 => simp
    | 2 => simp
    | 3 => simp
    | n + 4 => simp) hg51)
  have HB3 := Lib.hid (HB.out.trans (grown_below hg51 hszB (fun j hj => by cases hj; omega)))
  clear hu h1 hub hszB hb51 hg51 H12 HUB2 HB HB2 hlX hszX
  have HB := HB3
  have h1 := H13.out
  go_wp2_with (refine Agg.gLoadB 4 h1 rfl rfl rfl rfl (by decide +kernel) ?_; simp only [Act.put, List.setIfInBounds_toArray, List.set_cons_succ, List.set_cons_zero])
  clear h1
  refine (HF2.out w51 _ HU3.out).mono ?_
  rintro e w61 ⟨v, rfl, hv, hb⟩
  replace HB := Lib.hid (HB.out.trans (hb.mono HB.out.size))
  replace HU3 := Lib.hid (HU3.out.keep hb)
  replace H13 := Lib.hid (H13.out.keep hb)
  replace HUB3 := Lib.hid (HUB3.out.keep hb)
  clear hb
  obtain ⟨sl, hvv, hvo⟩ := hv
  obtain ⟨x9, c9, rfl, _, _⟩ := (ownSl hvo).shape
  have hv2 : v = .agg #[.int .i64 0, .int .u64 12, .slice x9 1 c9, .int .i64 5] := hvv
  subst hv2
  clear hvo HF2 hvv
  go_upto_region 8 with (first
    | (refine Agg.allocRow 26 #[.int .i64 0, .int .u64 0, .slice none 0 0, .int .i64 0] rfl rfl (by kernel_rfl) ?_; simp only [Act.put, List.setIfInBounds_toArray, List.set_cons_succ, List.set_cons_zero])
    | (refine Agg.gStoreNew 4 [.int .i64 0, .int .u64 12, .slice x9 1 c9, .int .i64 5] rfl rfl rfl rfl rfl rfl (by decide +kernel) rfl rfl (by simp [Value.oneCell']) ?_; simp only [Act.put]))
  refine Agg.wp_at fun w62 hw62 => ?_
  have hb : Below w61.heap.size w61 w62 := by rw [hw62.out]; repeat (first | exact Below.refl _ _ | refine Agg.bel_drew ?_ | refine Agg.bel_alloc ?_ _)
  replace HB := Lib.hid (HB.out.trans (hb.mono HB.out.size))
  replace HUB3 := Lib.hid (HUB3.out.keep hb)
  clear hb
  have H10 : Hid (Blk w62 w61.heap.size 26 [.int .i64 0, .int .u64 12, .slice x9 1 c9, .int .i64 5]) := by show Blk _ _ _ _; rw [hw62.out]; exact Blk.new w61 26 #[.int .i64 0, .int .u64 12, .slice x9 1 c9, .int .i64 5]
  clear hw62
  generalize w61.heap.size = g10 at *
  have c0 := H10.out.cell 0
  have c1 := H10.out.cell 1
  simp only [List.getElem?_cons_zero, List.getElem?_cons_succ] at c0 c1
  go_wp2_with fail
  refine Agg.calls_at fun w63 hw63 => ?_
  have hb : Below w62.heap.size w62 w63 := by rw [hw63.out]; repeat (first | exact Below.refl _ _ | refine Agg.bel_drew ?_ | refine Agg.bel_alloc ?_ _)
  replace HB := Lib.hid (HB.out.trans (hb.mono HB.out.size))
  replace HUB3 := Lib.hid (HUB3.out.keep hb)
  replace H10 := Lib.hid (H10.out.keep hb)
  clear hb
  have HL : Hid (Blk w63 w62.heap.size 5 [.int .u8 2, .int .u8 0, .int .u8 20, .int .u8 0, .int .u8 21, .int .u8 0, .int .u8 0, .int .u8 0, .int .u8 130]) := by show Blk _ _ _ _; rw [hw63.out]; exact Blk.new w62 5 #[.int .u8 2, .int .u8 0, .int .u8 20, .int .u8 0, .int .u8 21, .int .u8 0, .int .u8 0, .int .u8 0, .int .u8 130]
  clear hw63
  have HLB : Hid (Bytes w63 (.slice (some ⟨w62.heap.size, 0, none⟩) 9 9) [2, 0, 20, 0, 21, 0, 0, 0, 130]) := Lib.hid (SlR.ofBlk HL.out 0 9 9 _ rfl rfl (Nat.le_refl _) (by unfold maxLen; decide))
  clear c0 c1
  have c0 := H10.out.cell 0
  have c1 := H10.out.cell 1
  simp only [List.getElem?_cons_zero, List.getElem?_cons_succ] at c0 c1
  clear c0 c1
  refine (bEqual_any [2, 0, 20, 0, 21, 0, 0, 0, 130] [2, 0, 20, 0, 21, 0, 0, 0, 130] _ _ w63 HUB3.out HLB.out true (by decide)).mono ?_
  rintro e w64 ⟨rfl, hb⟩
  replace HB := Lib.hid (HB.out.trans (hb.mono HB.out.size))
  replace HUB3 := Lib.hid (HUB3.out.keep hb)
  replace H10 := Lib.hid (H10.out.keep hb)
  clear hb
  have c0 := H10.out.cell 0
  have c1 := H10.out.cell 1
  simp only [List.getElem?_cons_zero, List.getElem?_cons_succ] at c0 c1
  go_wp2_with fail
  go_ret
  exact ⟨rfl, HB.out⟩
end Go.Proofs.Ytjnnnnolikbjcaa
end
section
/-
  ROOTS: what arguments of the statements hold: devices, roots.
-/
namespace Go.Proofs.Ytjnnnnolikbjcaa
open Go.ChangeShapes Go.WideShapes Go.ChangeAt Go.RowKit Agg Pg Dv

theorem good_wr {w : World} {fuel : Nat} {cs : List Value} (h : Agg.Good Try.prog w fuel 88 cs) : ∃ x : Int × List Sec, cs = wrC x ∧ WOk x := by
  have hf := good_fits fuel 6 88 ksWr cs (by kernel_rfl) h
  obtain ⟨x, r, rfl, ⟨a, rfl, ha⟩, hf2⟩ := Agg.Fits.cons hf
  obtain ⟨b, h1, rfl, h3⟩ := fits_secs 4 r hf2
  exact ⟨(a, b), rfl, ha, h1, h3⟩
theorem good_wrs {w : World} {fuel : Nat} {v : Value} (h : Agg.Good Try.prog w fuel 28 [v]) : ∃ l : List (Int × List Sec), Wrs w v l ∧ ∀ x ∈ l, WOk x := by
  obtain ⟨l, h1, h2, h3⟩ := good_sl (α := {x : Int × List Sec // WOk x}) Try.underlying28 (sz := 133) (by kernel_rfl) (fun x => wrC x.1) (fun _ => True) (fun x => by
    show (_ :: blkC x.1.2).length = 133
    rw [List.length_cons, bok_cells x.2.2]) (fun f cs hg => by
    obtain ⟨x, h1, h2⟩ := good_wr hg
    exact ⟨⟨x, h2⟩, h1, trivial⟩) h
  refine ⟨l.map (·.1), ?_, fun b hb => ?_⟩
  · show SlR _ _ _ _ _
    rw [List.length_map, List.flatMap_map]; exact h1
  · obtain ⟨x, _, rfl⟩ := List.mem_map.1 hb
    exact x.2
set_option maxRecDepth 100000 in
theorem good_dev {w : World} {fuel : Nat} {c : Array Value} (h : Agg.Good Try.prog w fuel 30 c.toList) : ∃ d : Dev, DevR w (.agg c) d ∧ DevW d ∧ -9223372036854775808 ≤ d.fuse ∧ d.fuse ≤ 9223372036854775807 := by
  cases fuel with
  | zero => exact h.elim
  | succ n =>
    unfold Agg.Good at h
    rw [Try.underlying30] at h
    simp only at h
    obtain ⟨hl, hf⟩ := h
    have h1 : Agg.Good Try.prog w n 22 ((c.toList.drop 0).take (Try.prog.cellsOf 22)) := hf 0 _ rfl
    have h2 : Agg.Good Try.prog w n 28 ((c.toList.drop 1).take (Try.prog.cellsOf 28)) := hf 1 _ rfl
    have h4 : Agg.Good Try.prog w n 3 ((c.toList.drop 2).take (Try.prog.cellsOf 3)) := hf 2 _ rfl
    have h5 : Agg.Good Try.prog w n 4 ((c.toList.drop 3).take (Try.prog.cellsOf 4)) := hf 3 _ rfl
    have e0 : Try.prog.cellsOf 3 = 1 := by kernel_rfl
    have e1 : Try.prog.cellsOf 22 = 1 := by kernel_rfl
    have e3 : Try.prog.cellsOf 28 = 1 := by kernel_rfl
    have e4 : Try.prog.cellsOf 4 = 1 := by kernel_rfl
    have e2 : Try.prog.cellsOf 30 = 4 := by kernel_rfl
    rw [e0] at h4
    rw [e1] at h1
    rw [e3] at h2
    rw [e4] at h5
    rw [e2] at hl
    obtain ⟨l, hcl⟩ : ∃ l, l = c.toList := ⟨_, rfl⟩
    rw [← hcl] at hl h1 h2 h4 h5
    match l, hl with
    | [a, b, f, o], _ =>
      obtain ⟨P, hP, hPo, _⟩ := good_blks h1
      obtain ⟨C, hC, hCo⟩ := good_wrs h2
      obtain ⟨z, rfl, hz⟩ := good_i64 h4
      obtain ⟨q, rfl⟩ := good_bool h5
      have hP2 : Pgs w a P := hP
      obtain ⟨x, cx, rfl, _, _⟩ := hP2.shape
      have hC2 : Wrs w b C := hC
      obtain ⟨y, cy, rfl, _, _⟩ := hC2.shape
      exact ⟨⟨P, C, z, q⟩, ⟨x, y, cx, cy, by rw [← Array.toList_inj.1 hcl], hP2, hC2⟩, ⟨hPo, fun x hx => (hCo x hx).2, fun x hx => (hCo x hx).1⟩, hz⟩
/-- a root as it comes: no bound on its pages -/
structure RtG (r : Rt) : Prop where
  s1 : -9223372036854775808 ≤ r.slot
  s2 : r.slot ≤ 9223372036854775807
  st : r.stamp < 18446744073709551616
  b1 : -9223372036854775808 ≤ r.bytes
  b2 : r.bytes ≤ 9223372036854775807
  ps : ∀ x ∈ r.pages, -9223372036854775808 ≤ x ∧ x ≤ 9223372036854775807
theorem i64_range {z : Int} (h : (Lit.int .i64 z).wf = true) : -9223372036854775808 ≤ z ∧ z ≤ 9223372036854775807 := by
  simp [Lit.wf, IntKind.min, IntKind.max, IntKind.signed, IntKind.bits] at h; exact ⟨by omega, by omega⟩
theorem good_u64' {w : World} {fuel : Nat} {v : Value} (h : Agg.Good Try.prog w fuel 23 [v]) : ∃ n : Nat, v = .int .u64 (n : Int) ∧ n < 18446744073709551616 := by
  have hf := good_fits fuel 1 23 [some .u64] [v] (by kernel_rfl) h
  obtain ⟨x, r, e, ⟨z, rfl, hz⟩, _⟩ := Agg.Fits.cons hf
  injection e with e1 e2
  obtain ⟨n, rfl, hn⟩ := u64_nat hz
  exact ⟨n, e1, hn⟩
set_option maxRecDepth 100000 in
theorem good_rt {w : World} {fuel : Nat} {c : Array Value} (h : Agg.Good Try.prog w fuel 26 c.toList) : ∃ r : Rt, RtR w (.agg c) r ∧ RtG r := by
  cases fuel with
  | zero => exact h.elim
  | succ n =>
    unfold Agg.Good at h
    rw [Try.underlying26] at h
    simp only at h
    obtain ⟨hl, hf⟩ := h
    have h1 : Agg.Good Try.prog w n 3 ((c.toList.drop 0).take (Try.prog.cellsOf 3)) := hf 0 _ rfl
    have h2 : Agg.Good Try.prog w n 23 ((c.toList.drop 1).take (Try.prog.cellsOf 23)) := hf 1 _ rfl
    have h4 : Agg.Good Try.prog w n 24 ((c.toList.drop 2).take (Try.prog.cellsOf 24)) := hf 2 _ rfl
    have h5 : Agg.Good Try.prog w n 3 ((c.toList.drop 3).take (Try.prog.cellsOf 3)) := hf 3 _ rfl
    have e0 : Try.prog.cellsOf 3 = 1 := by kernel_rfl
    have e1 : Try.prog.cellsOf 23 = 1 := by kernel_rfl
    have e3 : Try.prog.cellsOf 24 = 1 := by kernel_rfl
    have e2 : Try.prog.cellsOf 26 = 4 := by kernel_rfl
    rw [e0] at h1 h5
    rw [e1] at h2
    rw [e3] at h4
    rw [e2] at hl
    obtain ⟨l, hcl⟩ : ∃ l, l = c.toList := ⟨_, rfl⟩
    rw [← hcl] at hl h1 h2 h4 h5
    match l, hl with
    | [a, b, f, o], _ =>
      obtain ⟨s, rfl, hs⟩ := good_int h1
      obtain ⟨st, rfl, hst⟩ := good_u64' h2
      obtain ⟨L, hL, hLw, _⟩ := good_ints h4
      obtain ⟨y, rfl, hy⟩ := good_int h5
      exact ⟨⟨s, st, L, y⟩, ⟨f, by show Value.agg c = .agg #[_, _, _, _]; rw [← Array.toList_inj.1 hcl], hL⟩, ⟨(i64_range hs).1, (i64_range hs).2, hst, (i64_range hy).1, (i64_range hy).2, fun x hx => i64_range (hLw x hx)⟩⟩
end Go.Proofs.Ytjnnnnolikbjcaa
end
section
/-
  ROOTS: own: a root in memory of its own.
-/
namespace Go.Proofs.Ytjnnnnolikbjcaa
open Go.ChangeShapes Go.WideShapes Go.ChangeAt Go.RowKit Agg Pg Dv
attribute [local go_sem] Oper.semAt_some

def ownR (r : Rt) : Rt := { r with pages := r.pages.take 70 }
theorem ownR_w {r : Rt} (h : RtG r) : RtW (ownR r) := ⟨h.s1, h.s2, h.st, h.b1, h.b2, fun x hx => h.ps x (List.mem_of_mem_take hx), by show (r.pages.take 70).length ≤ 1000; rw [List.length_take]; omega⟩

set_option maxHeartbeats 4000000 in
set_option maxRecDepth 100000 in
theorem rown_any (r : Rt) (v : Value) (w : World) (hv : RtR w v r) :
    Calls Try.prog 13 #[v] w fun e w' => ∃ u, e = .returned u ∧ RtO w.heap.size w' u (ownR r) ∧ Below w.heap.size w w' := by
  obtain ⟨sl, rfl, hs⟩ := hv.ex
  obtain ⟨x, c, rfl, hc1, hc2⟩ := ints_shape hs
  unfold maxLen at hc2
  have HS := Lib.hid hs
  obtain ⟨s, st, L, by'⟩ := r
  unfold rtV ownR
  dsimp only at HS hc1 hc2 ⊢
  obtain ⟨n, hn⟩ : ∃ k, min L.length 70 = k := ⟨_, rfl⟩
  have hmim : min (L.length : Int) 70 = (n : Int) := by omega
  have hn1 : n ≤ L.length := by omega
  have hn7 : n ≤ 70 := by omega
  obtain ⟨M, hM⟩ : ∃ M, L.take 70 = M := ⟨_, rfl⟩
  have hMl : M.length = n := by rw [← hM, List.length_take]; omega
  have hMt : L.take n = M := by rw [← hM, ← hn, Nat.min_comm, ← List.take_take, List.take_length]
  rw [hM]
  have HML := Lib.hid hMl
  have HMT := Lib.hid hMt
  clear hv hs hn hM hMl hMt
  have HB := Lib.hid (Below.refl w.heap.size w)
  go_enter Try.func13, Try.ntmps13
  go_upto_region 1 with (fail)
  refine Agg.wp_at fun w1 hw1 => ?_
  have hb : Below w.heap.size w w1 := by rw [hw1.out]; repeat (first | exact Below.refl _ _ | refine Agg.bel_drew ?_ | refine Agg.bel_alloc ?_ _)
  replace HB := Lib.hid (HB.out.trans (hb.mono HB.out.size))
  replace HS := Lib.hid (HS.out.keep hb)
  clear hb
  have H1 : Hid (Blk w1 w.heap.size 26 [.int .i64 s, .int .u64 (st : Int), .slice x L.length c, .int .i64 by']) := by show Blk _ _ _ _; rw [hw1.out]; exact (Blk.new w 26 #[.int .i64 s, .int .u64 (st : Int), .slice x L.length c, .int .i64 by']).al _
  have H2 : Hid (Blk w1 (w.heap.size + 1) 26 [.int .i64 0, .int .u64 0, .slice none 0 0, .int .i64 0]) := by show Blk _ _ _ _; rw [hw1.out]; exact Blk.newAt (w.alloc _) 26 #[.int .i64 0, .int .u64 0, .slice none 0 0, .int .i64 0] _ (by simp)
  clear hw1
  have h2l := H2.out.lt
  have hbA : Below w1.heap.size w1 (w1.alloc (.cells #[] 3)) := (Below.refl _ _).alloc (Nat.le_refl _) _
  have HLI := Lib.hid (World.ownsRow_lit (e := 3) (size := 1) (base := w1.heap.size) w1 #[] 0 (Nat.le_refl _) (by decide) rfl)
  have HDA : Hid (SlR (w1.alloc (.cells #[] 3)) (.slice x n c) 1 n (iC M)) := Lib.hid (by
    have h : SlR w1 (.slice x n c) 1 n ((iC L).take (n * 1)) := slR_head HS.out n hn1
    have e : (iC L).take (n * 1) = iC M := by rw [Nat.mul_one, ← HMT.out]; unfold iC; rw [List.map_take]
    rw [e] at h
    exact SlR.keep h hbA)
  have hsu := Lib.hid (fun W : World => run_slice_upto tiInt x L.length c n (by omega) W)
  have h1A := Lib.hid (H1.out.keep hbA)
  have h2A := Lib.hid (H2.out.keep hbA)
  have hbw := Lib.hid (HB.out.trans (hbA.mono HB.out.size))
  have c2 := h1A.out.cell 2
  simp only [List.getElem?_cons_zero, List.getElem?_cons_succ] at c2
  have hli := HLI.out
  have hda := HDA.out
  have hone : ∀ u ∈ iC M, u.oneCell' = true := by
    intro u hu
    unfold iC at hu
    obtain ⟨y, _, rfl⟩ := List.mem_map.1 hu
    rfl
  have hsz : w1.heap.size ≤ (w1.alloc (.cells #[] 3)).heap.size := hbA.size
  clear hbA
  go_upto_region 2 with (first
    | (refine Agg.min2 _ _ _ (n : Int) rfl rfl rfl rfl hmim ?_; simp only [Act.put, List.setIfInBounds_toArray, List.set_cons_succ, List.set_cons_zero])
    | (refine Agg.gSliceUp (.slice x n c) rfl rfl rfl rfl hsu.out ?_; simp only [Act.put, List.setIfInBounds_toArray, List.set_cons_succ, List.set_cons_zero])
    | (refine Agg.append2 tiInt _ _ rfl rfl w1.heap.size (v := .slice (some ⟨w1.heap.size, 0, none⟩) 0 0) rfl hli rfl hda hone (by unfold maxLen; omega) (by omega) hsz ?_; intro v3 w3 ho3 hg3 _; obtain ⟨x3, c3, rfl, _, _⟩ := (ownSl ho3).shape; have h13 := blk_row h1A.out hg3 (own_apart hli h1A.out (by decide)); simp only [Act.put, List.setIfInBounds_toArray, List.set_cons_succ, List.set_cons_zero])
    | (refine Agg.gStoreCell 2 (.slice x3 (0 + n) c3) h13 rfl rfl rfl rfl rfl (by kernel_rfl) rfl (by simp) rfl (fun w5 hb5 hg5 => ?_)))
  have e5 : spliced [.int .i64 s, .int .u64 (st : Int), .slice x L.length c, .int .i64 by'] 2 [.slice x3 (0 + n) c3] = [.int .i64 s, .int .u64 (st : Int), .slice x3 (0 + n) c3, .int .i64 by'] := rfl
  rw [e5] at hb5
  have h23 := blk_row h2A.out hg3 (own_apart hli h2A.out (by decide))
  have h25 := h23.far' hg5 (show w.heap.size + 1 ≠ w.heap.size by omega)
  have ho5 := ho3.kept hg5 (own_apart ho3 h13 (by decide))
  have hob := own_block hli
  have hb3 := hbw.out.trans (grown_below hg3 hbw.out.size (fun k e => by have := hob k e; omega))
  have hb5' := hb3.trans (grown_below hg5 hb3.size (fun k e => by cases e; exact Nat.le_refl _))
  have HO5 := Lib.hid ho5
  have HB5 := Lib.hid hb5'
  have hsz5 := hb5'.size
  clear hg3 hg5 hli hda hone ho3 h13 e5 h23 ho5 hob hb3 hb5' c2
  go_wp2_with (first
    | (refine Agg.gLoadB 4 hb5 rfl rfl rfl rfl (by decide +kernel) ?_; simp only [Act.put, List.setIfInBounds_toArray, List.set_cons_succ, List.set_cons_zero])
    | (refine Agg.gStoreB 4 [.int .i64 s, .int .u64 (st : Int), .slice x3 (0 + n) c3, .int .i64 by'] h25 rfl rfl rfl rfl rfl (by decide +kernel) rfl rfl (by simp [Value.oneCell']) (fun w14 hb14 hg14 => ?_)))
  refine bodyPost_ret (results_row1 (m := 4) rfl hb14 rfl (by decide +kernel) rfl) rfl ⟨_, rfl, ⟨.slice x3 (0 + n) c3, rfl, ?_⟩, HB5.out.trans (grown_below hg14 hsz5 (fun k e => by cases e; omega))⟩
  have ho := HO5.out.kept hg14 (own_apart HO5.out h25 (by decide))
  show World.ownsRow _ _ _ 1 _ M.length _
  rw [HML.out, Nat.zero_add] at *
  exact own_base ho (by omega)
end Go.Proofs.Ytjnnnnolikbjcaa
end
