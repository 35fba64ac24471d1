/-
  THE WALK OF LAYER 19's STATEMENT LogPuts.
-/
import Derived.Test.YtlddjcilbpcciaaLh3
import Derived.Test.YtlddjcilbpcciaaOwn2
import Derived.Test.YtlddjcilbpcciaaLh2
namespace Go.Proofs.Ytlddjcilbpcciaa
open Go.ChangeShapes Go.WideShapes Go.ChangeAt Go.RowKit Agg Pg Dv Lg
attribute [local go_sem] Oper.semAt_some

theorem rbl_eq {n : Nat} {B : List UInt8} {m : Nat} (h1 : 1 ≤ n) (h2 : n + m ≤ 4611686018427387905) (k : Nat) (hk : k ≤ m) : rblG n B m k = blkG n B m k := by
  unfold rblG blkG
  refine List.map_congr_left fun i hi => ?_
  have := List.mem_range.1 hi
  exact (layL_ok (partL_len B m i) ⟨by omega, by omega⟩).symm
theorem goes_off {d : Dev} (h : askL d = 10) : rightD d = true ∧ d.off = true ∧ ∀ r, goesP d r = (10, d) := by
  unfold askL at h
  split at h
  · rename_i h1
    split at h
    · rename_i h2
      refine ⟨h1, h2, fun r => ?_⟩
      unfold goesP
      rw [if_neg (by rw [h1]; decide), if_pos h2]
    · omega
  · omega
theorem ask_bad {d : Dev} (h1 : askL d ≠ 0) (h2 : askL d ≠ 10) : rightD d = false ∧ askL d = 260 := by
  unfold askL at *
  split
  · rename_i h
    rw [if_pos h] at h1 h2
    split at h1 <;> simp_all
  · rename_i h
    exact ⟨by simpa using h, rfl⟩
theorem ask_right {d : Dev} (h : askL d = 0) : rightD d = true ∧ d.off = false := askL_zero h
theorem DevO.far {b : Nat} {w w' : World} {g : Nat} {T : TypeId} {cs : List Value} {d : Dev} {v : Value} (h : DevO b w v d) (H : Blk w g T cs) (h1 : 54 ≠ T) (h2 : 78 ≠ T) (hg : w.grownBy w' (some g)) : DevO b w' v d := by
  obtain ⟨p, c, hv, hp, hc⟩ := h
  exact ⟨p, c, hv, hp.kept hg (own_apart hp H h1), hc.kept hg (own_apart hc H h2)⟩
theorem putsP_good' : ∀ (l : List (Int × List Sec)) {d : Dev}, DGood d → (∀ x ∈ l, BOk x.2) → DGood (putsP d l).2
  | [], _, h, _ => h
  | x :: l, d, h, hl => by
    rw [putsP]
    have h1 := goesP_good h (putP_good h x.1 (hl x (by simp)))
    split
    · exact h1
    · exact putsP_good' l h1 (fun y hy => hl y (by simp [hy]))
theorem putG_good {d : Dev} (h : DGood d) (at0 : Int) (n : Nat) (B : List UInt8) : DGood (putG d at0 n B).2 := by
  unfold putG
  split
  · exact goesP_good h (flushP_good h)
  · split
    · exact dev0_good
    · split
      · exact dev0_good
      · have h2 := putsP_good' (wrsG at0.toNat n B (mG B) (mG B)) h (wrsG_bok _ _ _ _ _)
        split
        · exact h2
        · exact goesP_good h2 (flushP_good h2)
def DevOv (b : Nat) (d : Dev) (v : Value) (w : World) : Prop := DevO b w v d
theorem DevOv.stable (b : Nat) (d : Dev) : Stable (DevOv b d) := fun _ _ _ (h : DevO _ _ _ _) hb => h.keep hb
set_option maxHeartbeats 4000000 in
set_option maxRecDepth 100000 in
theorem puts_walk (x : Dev) (at0 : Int) (n : Nat) (grp : List UInt8) (dv gv : Value) (w : World) (hx : DevW x) (hf1 : -9223372036854775808 ≤ x.fuse) (hf2 : x.fuse ≤ 9223372036854775807) (hD : DevR w dv x) (hgv : Bytes w gv grp) (hn : n < 18446744073709551616) (ha1 : -9223372036854775808 ≤ at0) (ha2 : at0 ≤ 9223372036854775807) :
    Calls Try.prog 6 #[dv, .int .i64 at0, .int .u64 (n : Int), gv] w fun e w' => e = .returned (.bool true) ∧ Below w.heap.size w w' := by
  obtain ⟨px, cx, pc, cc, rfl, _, _⟩ := id hD
  obtain ⟨gx, gc, rfl, hgc, hgm⟩ := SlR.shape hgv
  unfold maxLen at hgm
  have hog := ownD_good hx
  have hol := ownD_len x
  have HOW := Lib.hid (fun W v h => lown_any x v W hx hf1 hf2 h)
  obtain ⟨O, hO⟩ : ∃ O, ownD x = O := ⟨_, rfl⟩
  rw [hO] at hog hol HOW
  obtain ⟨nl, hnl⟩ : ∃ k, min grp.length 2000 = k := ⟨_, rfl⟩
  have HMI : Hid (min (grp.length : Int) 2000 = (nl : Int)) := Lib.hid (by omega)
  have hnl1 : nl ≤ grp.length := by omega
  have hnl2 : nl ≤ 2000 := by omega
  have hbt := bytes_take hgv nl hnl1
  obtain ⟨B, hB⟩ : ∃ B, grp.take nl = B := ⟨_, rfl⟩
  have hbl : B.length = nl := by rw [← hB, List.length_take]; omega
  rw [hB] at hbt
  have hsb : SlR w (.slice gx nl gc) 1 nl (bv B) := by have h : SlR w (.slice gx nl gc) 1 B.length (bv B) := hbt; rwa [hbl] at h
  have HBT := Lib.hid hsb
  have HBL := Lib.hid hbl
  have HPT := Lib.hid (fun W v b h1 h2 => lput_any O at0 n B v b W hog (by omega) h1 h2 (by omega) hn ha1 ha2)
  obtain ⟨G, hG⟩ : ∃ G, putG O at0 n B = G := ⟨_, rfl⟩
  rw [hG] at HPT
  have HG := Lib.hid hG
  have HD := Lib.hid hD
  have HOG := Lib.hid hog
  have HOL := Lib.hid hol
  have hgg : DGood G.2 := by rw [← hG]; exact putG_good hog at0 n B
  have HGG := Lib.hid hgg
  clear hD hO hog hol hx hf1 hf2 hG hbt hsb hbl hB hgv hnl hgg
  have HB := Lib.hid (Below.refl w.heap.size w)
  go_enter Try.func6, Try.ntmps6
  go_upto_region 1 with (fail)
  refine Agg.wp_at fun w1 hw1 => ?_
  have hb : Below w.heap.size w w1 := by rw [hw1.out]; repeat (first | exact Below.refl _ _ | refine Agg.bel_drew ?_ | refine Agg.bel_alloc ?_ _)
  replace HB := Lib.hid (HB.out.trans (hb.mono HB.out.size))
  replace HD := Lib.hid (HD.out.keep hb)
  replace HBT := Lib.hid (HBT.out.keep hb)
  clear hb
  have H4 : Hid (Blk w1 w.heap.size 28 [.slice px x.pages.length pc, .slice cx x.cache.length cc, .int .i64 x.fuse, .bool x.off]) := by show Blk _ _ _ _; rw [hw1.out]; exact Blk.new w 28 #[.slice px x.pages.length pc, .slice cx x.cache.length cc, .int .i64 x.fuse, .bool x.off]
  clear hw1
  go_wp2_with fail
  refine (wakes_any w1).mono ?_
  rintro e w2 ⟨rfl, hb⟩
  replace HB := Lib.hid (HB.out.trans (hb.mono HB.out.size))
  replace HD := Lib.hid (HD.out.keep hb)
  replace HBT := Lib.hid (HBT.out.keep hb)
  replace H4 := Lib.hid (H4.out.keep hb)
  clear hb
  go_upto_region 3 with (fail)
  have hlw := HB.out.size
  refine Agg.chainR 10 (by kernel_rfl) (by kernel_rfl) ?_
  simp only [List.take_succ_cons, List.take_zero, List.drop_succ_cons, List.drop_zero]
  refine Agg.chRowB 4 H4.out rfl (by decide +kernel) rfl rfl rfl rfl ?_
  refine Agg.chCallG Try.func12 rfl (by kernel_rfl) (DevOv w2.heap.size O) (DevOv.stable _ _) rfl rfl rfl rfl (fun W hb => Calls.mono (HOW.out W _ (HD.out.keep hb)) (by rintro e w2 ⟨v, rfl, h, h2⟩; exact ⟨_, rfl, h.base hb.size, h2⟩)) ?_
  refine Agg.chBuildSlice (e := 5) #[] rfl rfl rfl rfl (fun _ => by kernel_rfl) ?_
  refine Agg.chMove rfl rfl rfl rfl ?_
  refine Agg.chMove rfl rfl rfl rfl ?_
  refine Agg.chLen Try.underlying37 rfl rfl rfl rfl ?_
  refine Agg.chMin2 (nl : Int) HMI.out rfl rfl rfl rfl rfl ?_
  refine Agg.chSlice none (some (.int .i64 (nl : Int))) none rfl rfl rfl rfl rfl rfl rfl rfl (fun W => run_slice_upto ti25 gx grp.length gc nl (by omega) W) ?_
  refine Agg.chAppendNew ti25 2 nl (bv B) HBT.out (bv_one B) (by unfold maxLen; omega) (by omega) rfl rfl rfl rfl rfl rfl rfl ?_
  refine Agg.chAlloc #[.slice none 0 0, .slice none 0 0, .int .i64 0, .bool false] rfl (by kernel_rfl) rfl rfl ?_
  refine Agg.chEnd ?_
  intro vs w3 hb hf
  simp only [List.reverse, List.reverseAux, Agg.Facts] at hf
  obtain ⟨h1, _, h8, ⟨g9, hv9, hg9, hb9⟩, _⟩ := hf
  simp only [List.reverse, List.reverseAux, Agg.fill, List.set_cons_succ, List.set_cons_zero, hv9]
  obtain ⟨px9, pc9, cx9, cc9, hv1⟩ := (DevO.read h1).shape
  obtain ⟨bx, bc, hv8, _, _⟩ := (ownSl h8).shape
  rw [hv1] at h1
  rw [hv8] at h8
  simp only [hv1, hv8]
  have h4 := H4.out.keep hb
  have hbA := HB.out.trans (hb.mono HB.out.size)
  refine Agg.tStore 4 (cs := [.slice px9 O.pages.length pc9, .slice cx9 O.cache.length cc9, .int .i64 O.fuse, .bool O.off]) hb9 rfl rfl rfl rfl rfl (by decide +kernel) rfl rfl (by simp [Value.oneCell']) (fun w60 hb60 hg60 => ?_)
  refine Agg.tAssign rfl rfl rfl ?_
  simp only [Agg.ev, List.getD_cons_zero, List.getD_cons_succ, List.set_cons_succ, List.set_cons_zero]
  refine Agg.wpNil ?_
  have HNE : Hid (w.heap.size ≠ g9 ∧ w.heap.size ≤ g9) := Lib.hid (by have := H4.out.lt; omega)
  have H9 := Lib.hid hb60
  have H4' := Lib.hid (h4.far' hg60 HNE.out.1)
  have HDO := Lib.hid (DevO.base (DevO.far h1 hb9 (by decide) (by decide) hg60) (Nat.zero_le _))
  have hy := ownSl (World.ownsRow.kept h8 hg60 (own_apart h8 hb9 (by decide)))
  have HYB : Hid (Bytes w60 (.slice bx nl bc) B) := Lib.hid (by show SlR _ _ 1 B.length _; rw [HBL.out]; exact hy)
  have HD2 : Hid (DevR w60 (.agg #[.slice px x.pages.length pc, .slice cx x.cache.length cc, .int .i64 x.fuse, .bool x.off]) x) := Lib.hid (HD.out.keep (hb.trans (grown_below hg60 hb.size (fun j hj => by cases hj; omega))))
  have HB2 := Lib.hid (hbA.trans (grown_below hg60 hbA.size (fun j hj => by cases hj; exact HNE.out.2)))
  clear hv1 hv8 hv9 h1 h8 hb9 hb60 hg60 h4 hbA hy hb HD HBT H4 HB
  have HD := HD2
  have H4 := H4'
  have HB := HB2
  clear HD2 H4' HB2
  have h4 := H4.out
  go_wp2_with (refine Agg.gLoadB 4 h4 rfl rfl rfl rfl (by decide +kernel) ?_; simp only [Act.put, List.setIfInBounds_toArray, List.set_cons_succ, List.set_cons_zero])
  clear h4
  refine (HOW.out w60 _ HD.out).mono ?_
  rintro e w21 ⟨v, rfl, hv, hb⟩
  replace HB := Lib.hid (HB.out.trans (hb.mono HB.out.size))
  replace HD := Lib.hid (HD.out.keep hb)
  replace H4 := Lib.hid (H4.out.keep hb)
  replace H9 := Lib.hid (H9.out.keep hb)
  replace HDO := Lib.hid (HDO.out.keep hb)
  replace HYB := Lib.hid (HYB.out.keep hb)
  clear hb
  have HV := Lib.hid hv.read
  obtain ⟨px2, pc2, cx2, cc2, rfl⟩ := HV.out.shape
  clear hv HD H4 HOW
  go_wp2_with fail
  refine (HPT.out w21 _ _ HV.out HYB.out).mono ?_
  rintro e w22 ⟨v, rfl, hv, hb⟩
  replace HB := Lib.hid (HB.out.trans (hb.mono HB.out.size))
  replace H9 := Lib.hid (H9.out.keep hb)
  replace HDO := Lib.hid (HDO.out.keep hb)
  replace HYB := Lib.hid (HYB.out.keep hb)
  replace HV := Lib.hid (HV.out.keep hb)
  clear hb
  have HGO := Lib.hid (hv.base (Nat.zero_le _))
  obtain ⟨px3, pc3, cx3, cc3, rfl⟩ := HGO.out.read.shape
  clear hv HPT HV
  have hlt9 := H9.out.lt
  go_upto_region 5 with (first
    | (refine Agg.allocRow 28 #[.slice none 0 0, .slice none 0 0, .int .i64 0, .bool false] rfl rfl (by kernel_rfl) ?_; simp only [Act.put, List.setIfInBounds_toArray, List.set_cons_succ, List.set_cons_zero])
    | (refine Agg.gStoreNew 4 [.slice px3 G.2.pages.length pc3, .slice cx3 G.2.cache.length cc3, .int .i64 G.2.fuse, .bool G.2.off] rfl rfl rfl rfl rfl rfl (by decide +kernel) rfl rfl (by simp [Value.oneCell']) ?_; simp only [Act.put]))
  refine Agg.wp_at fun w23 hw23 => ?_
  have hb : Below w22.heap.size w22 w23 := by rw [hw23.out]; repeat (first | exact Below.refl _ _ | refine Agg.bel_drew ?_ | refine Agg.bel_alloc ?_ _)
  replace HB := Lib.hid (HB.out.trans (hb.mono HB.out.size))
  replace H9 := Lib.hid (H9.out.keep hb)
  replace HDO := Lib.hid (HDO.out.keep hb)
  replace HYB := Lib.hid (HYB.out.keep hb)
  replace HGO := Lib.hid (HGO.out.keep hb)
  clear hb
  have H11 : Hid (Blk w23 w22.heap.size 28 [.slice px3 G.2.pages.length pc3, .slice cx3 G.2.cache.length cc3, .int .i64 G.2.fuse, .bool G.2.off]) := by show Blk _ _ _ _; rw [hw23.out]; exact Blk.new w22 28 #[.slice px3 G.2.pages.length pc3, .slice cx3 G.2.cache.length cc3, .int .i64 G.2.fuse, .bool G.2.off]
  clear hw23
  have HN11 : Hid (g9 ≠ w22.heap.size ∧ w.heap.size ≤ w22.heap.size) := Lib.hid (by have := HNE.out.2; omega)
  clear hlt9
  generalize w22.heap.size = g11 at *
  have h9 := H9.out
  go_wp2_with (refine Agg.gLoadB 4 h9 rfl rfl rfl rfl (by decide +kernel) ?_; simp only [Act.put, List.setIfInBounds_toArray, List.set_cons_succ, List.set_cons_zero])
  clear h9
  obtain ⟨ck, hck⟩ : ∃ c : Int, (if rightD O then (0 : Int) else 260) = c := ⟨_, rfl⟩
  have HCK := Lib.hid (fun W v (h : DevR W v O) => check_R (w := W) (v := v) (d := O) HOG.out h)
  rw [hck] at HCK
  refine (HCK.out w23 _ HDO.out.read).mono ?_
  rintro e w24 ⟨rfl, hb⟩
  replace HB := Lib.hid (HB.out.trans (hb.mono HB.out.size))
  replace H9 := Lib.hid (H9.out.keep hb)
  replace HDO := Lib.hid (HDO.out.keep hb)
  replace HYB := Lib.hid (HYB.out.keep hb)
  replace HGO := Lib.hid (HGO.out.keep hb)
  replace H11 := Lib.hid (H11.out.keep hb)
  clear hb
  have HSG := Lib.hid (fun W v u (h1 : DevR W v G.2) (e : Dev) (he : DGood e) (h2 : DevR W u e) (hq : G.2 = e) => same_R (w := W) (v := v) (d := G.2) HGG.out he h1 h2 true (by simp [hq]))
  clear HCK
  by_cases hr : rightD O = true
  · rw [if_pos hr] at hck
    subst hck
    by_cases hoff : O.off = true
    · have ha : askL O = 10 := by unfold askL; rw [if_pos hr, if_pos hoff]
      have hG : G = (10, O) := by
        rw [← HG.out]; unfold putG; rw [if_pos ha]; exact (goes_off ha).2.2 _
      have hg1 : ((G.1 : Int) == 10) = true := by rw [hG]; rfl
      have hg2 : G.2 = O := by rw [hG]
      have HQ := Lib.hid (And.intro hoff (And.intro hg1 hg2))
      clear ha hG hg1 hg2 hr hoff
      go_upto_region 6 with (fail)
      refine Agg.listR 6 (by kernel_rfl) ?_
      simp only [List.take_succ_cons, List.take_zero, List.drop_succ_cons, List.drop_zero]
      refine Agg.chMove rfl rfl rfl rfl ?_
      refine Agg.chEq true (by decide) rfl rfl rfl rfl rfl ?_
      refine Agg.chMove rfl rfl rfl rfl ?_
      refine Agg.chFA fo_fo_Dev_3 rfl rfl rfl rfl ?_
      refine Agg.chLoadB (v := .bool true) H9.out (by decide +kernel) rfl rfl (by rw [HQ.out.1]; rfl) rfl rfl ?_
      refine Agg.chPick rfl rfl rfl rfl rfl ?_
      refine Agg.chEnd ?_
      intro vs w25 hb _
      show Exit.then _ _ Exit.normal _ _
      simp only [List.reverse, List.reverseAux, Agg.fill, List.set_cons_succ, List.set_cons_zero]
      replace HB := Lib.hid (HB.out.trans (hb.mono HB.out.size))
      replace H9 := Lib.hid (H9.out.keep hb)
      replace HDO := Lib.hid (HDO.out.keep hb)
      replace HYB := Lib.hid (HYB.out.keep hb)
      replace HGO := Lib.hid (HGO.out.keep hb)
      replace H11 := Lib.hid (H11.out.keep hb)
      clear hb
      go_upto_region 7 with (fail)
      refine Agg.listR 7 (by kernel_rfl) ?_
      simp only [List.take_succ_cons, List.take_zero, List.drop_succ_cons, List.drop_zero]
      refine Agg.chMove rfl rfl rfl rfl ?_
      refine Agg.chEq true HQ.out.2.1 rfl rfl rfl rfl rfl ?_
      refine Agg.chMove rfl rfl rfl rfl ?_
      refine Agg.chRowB 4 H11.out rfl (by decide +kernel) rfl rfl rfl rfl ?_
      refine Agg.chRowB 4 H9.out rfl (by decide +kernel) rfl rfl rfl rfl ?_
      refine Agg.chCall Try.func20 rfl (by kernel_rfl) rfl rfl rfl rfl (fun W hb => HSG.out W _ _ (HGO.out.keep hb).read O HOG.out (HDO.out.keep hb).read HQ.out.2.2) ?_
      refine Agg.chPick rfl rfl rfl rfl rfl ?_
      refine Agg.chEnd ?_
      intro vs w26 hb _
      simp only [List.reverse, List.reverseAux, Agg.fill, List.set_cons_succ, List.set_cons_zero]
      replace HB := Lib.hid (HB.out.trans (hb.mono HB.out.size))
      replace H9 := Lib.hid (H9.out.keep hb)
      replace HDO := Lib.hid (HDO.out.keep hb)
      replace HYB := Lib.hid (HYB.out.keep hb)
      replace HGO := Lib.hid (HGO.out.keep hb)
      replace H11 := Lib.hid (H11.out.keep hb)
      clear hb
      go_wp2_with fail
      go_ret
      exact ⟨rfl, HB.out⟩
    · skip
      have ha : askL O = 0 := by unfold askL; rw [if_pos hr, if_neg hoff]
      have hoffb : O.off = false := by simpa using hoff
      obtain ⟨y, hy⟩ : ∃ y, whyG at0 n B = y := ⟨_, rfl⟩
      have hmB := mG_eq B
      have hmle := mG_le B
      obtain ⟨mB, hmBe⟩ : ∃ m, mG B = m := ⟨_, rfl⟩
      rw [hmBe] at hmB hmle
      have hB0 : B.length = 0 ↔ mB = 0 := by
        have h1 := HBL.out
        unfold needL at hmB
        split at hmB <;> omega
      have HAS := Lib.hid ha
      have HY := Lib.hid hy
      have HMB := Lib.hid hmB
      have HME := Lib.hid hmBe
      have hm2 : mB ≤ 2000 := by have := HBL.out; omega
      have HOF := Lib.hid hoffb
      have HB0 := Lib.hid hB0
      clear ha hy hmB hmBe hmle hr hoff hoffb hB0
      go_upto_region 6 with (fail)
      refine Agg.listR 6 (by kernel_rfl) ?_
      simp only [List.take_succ_cons, List.take_zero, List.drop_succ_cons, List.drop_zero]
      refine Agg.chMove rfl rfl rfl rfl ?_
      refine Agg.chEq true (by decide) rfl rfl rfl rfl rfl ?_
      refine Agg.chMove rfl rfl rfl rfl ?_
      refine Agg.chFA fo_fo_Dev_3 rfl rfl rfl rfl ?_
      refine Agg.chLoadB (v := .bool false) H9.out (by decide +kernel) rfl rfl (by rw [HOF.out]; rfl) rfl rfl ?_
      refine Agg.chPick rfl rfl rfl rfl rfl ?_
      refine Agg.chEnd ?_
      intro vs w27 hb _
      show Exit.then _ _ Exit.normal _ _
      simp only [List.reverse, List.reverseAux, Agg.fill, List.set_cons_succ, List.set_cons_zero]
      replace HB := Lib.hid (HB.out.trans (hb.mono HB.out.size))
      replace H9 := Lib.hid (H9.out.keep hb)
      replace HDO := Lib.hid (HDO.out.keep hb)
      replace HYB := Lib.hid (HYB.out.keep hb)
      replace HGO := Lib.hid (HGO.out.keep hb)
      replace H11 := Lib.hid (H11.out.keep hb)
      clear hb
      go_wp2_with fail
      refine (rneed_any (nl : Int) (by omega) (by omega) w27).mono ?_
      rintro e w28 ⟨rfl, hb⟩
      replace HB := Lib.hid (HB.out.trans (hb.mono HB.out.size))
      replace H9 := Lib.hid (H9.out.keep hb)
      replace HDO := Lib.hid (HDO.out.keep hb)
      replace HYB := Lib.hid (HYB.out.keep hb)
      replace HGO := Lib.hid (HGO.out.keep hb)
      replace H11 := Lib.hid (H11.out.keep hb)
      clear hb
      rw [← HBL.out, ← HMB.out, HBL.out]
      go_upto_block 0 with (fail)
      obtain ⟨wZ, hwZ⟩ : ∃ x, x = w28 := ⟨_, rfl⟩
      subst hwZ
      have HBZ := HB
      have H9Z := H9
      have HDOZ := HDO
      have HYBZ := HYB
      have HGOZ := HGO
      have H11Z := H11
      clear HB H9 HDO HYB HGO H11
      have hyb := HY.out
      unfold whyG at hyb
      simp only [HB0.out, ← HMB.out] at hyb
      have HYB2 := Lib.hid hyb
      clear hyb
      go_cut [13] from 57 to 84 (fun s13 wx => s13 = .int .i64 y ∧ Below wZ.heap.size wZ wx)
      case first =>
        have HB := Lib.hid (Below.refl wZ.heap.size wZ)
        by_cases c1 : mB = 0
        · have d1 : ((mB : Int) == 0) = true := by rw [c1]; rfl
          obtain rfl : y = 2 := by have := HYB2.out; rw [if_pos (.inl c1)] at this; exact this.symm
          clear c1
          go_upto_region 10 with (fail)
          refine Agg.listR 15 (by kernel_rfl) ?_
          simp only [List.take_succ_cons, List.take_zero, List.drop_succ_cons, List.drop_zero]
          refine Agg.chMove rfl rfl rfl rfl ?_
          refine Agg.chEq true d1 rfl rfl rfl rfl rfl ?_
          refine Agg.chMove rfl rfl rfl rfl ?_
          refine Agg.chSkip rfl rfl ?_
          refine Agg.chSkip rfl rfl ?_
          refine Agg.chPick rfl rfl rfl rfl rfl ?_
          refine Agg.chMove rfl rfl rfl rfl ?_
          refine Agg.chSkip rfl rfl ?_
          refine Agg.chSkip rfl rfl ?_
          refine Agg.chPick rfl rfl rfl rfl rfl ?_
          refine Agg.chMove rfl rfl rfl rfl ?_
          refine Agg.chSkip rfl rfl ?_
          refine Agg.chSkip rfl rfl ?_
          refine Agg.chSkip rfl rfl ?_
          refine Agg.chPick rfl rfl rfl rfl rfl ?_
          refine Agg.chEnd ?_
          intro vs w31 hb _
          simp only [List.reverse, List.reverseAux, Agg.fill, List.set_cons_succ, List.set_cons_zero]
          replace HB := Lib.hid (HB.out.trans (hb.mono HB.out.size))
          clear hb
          go_wp2_with fail
          go_meet
          exact ⟨rfl, HB.out⟩
        · skip
          have d1 : ((mB : Int) == 0) = false := beq_false_of_ne (by omega)
          by_cases c2 : at0 < 0
          · have d2 : decide (at0 < 0) = true := decide_eq_true c2
            obtain rfl : y = 2 := by have := HYB2.out; rw [if_pos (by omega)] at this; exact this.symm
            go_upto_region 10 with (fail)
            refine Agg.listR 15 (by kernel_rfl) ?_
            simp only [List.take_succ_cons, List.take_zero, List.drop_succ_cons, List.drop_zero]
            refine Agg.chMove rfl rfl rfl rfl ?_
            refine Agg.chEq false d1 rfl rfl rfl rfl rfl ?_
            refine Agg.chMove rfl rfl rfl rfl ?_
            refine Agg.chMove rfl rfl rfl rfl ?_
            refine Agg.chLt true d2 rfl rfl rfl rfl rfl ?_
            refine Agg.chPick rfl rfl rfl rfl rfl ?_
            refine Agg.chMove rfl rfl rfl rfl ?_
            refine Agg.chSkip rfl rfl ?_
            refine Agg.chSkip rfl rfl ?_
            refine Agg.chPick rfl rfl rfl rfl rfl ?_
            refine Agg.chMove rfl rfl rfl rfl ?_
            refine Agg.chSkip rfl rfl ?_
            refine Agg.chSkip rfl rfl ?_
            refine Agg.chSkip rfl rfl ?_
            refine Agg.chPick rfl rfl rfl rfl rfl ?_
            refine Agg.chEnd ?_
            intro vs w32 hb _
            simp only [List.reverse, List.reverseAux, Agg.fill, List.set_cons_succ, List.set_cons_zero]
            replace HB := Lib.hid (HB.out.trans (hb.mono HB.out.size))
            clear hb
            go_wp2_with fail
            go_meet
            exact ⟨rfl, HB.out⟩
          · skip
            have d2 : decide (at0 < 0) = false := decide_eq_false c2
            by_cases c3 : at0 > 16
            · have d3 : decide (at0 > 16) = true := decide_eq_true c3
              obtain rfl : y = 2 := by have := HYB2.out; rw [if_pos (by omega)] at this; exact this.symm
              go_upto_region 10 with (fail)
              refine Agg.listR 15 (by kernel_rfl) ?_
              simp only [List.take_succ_cons, List.take_zero, List.drop_succ_cons, List.drop_zero]
              refine Agg.chMove rfl rfl rfl rfl ?_
              refine Agg.chEq false d1 rfl rfl rfl rfl rfl ?_
              refine Agg.chMove rfl rfl rfl rfl ?_
              refine Agg.chMove rfl rfl rfl rfl ?_
              refine Agg.chLt false d2 rfl rfl rfl rfl rfl ?_
              refine Agg.chPick rfl rfl rfl rfl rfl ?_
              refine Agg.chMove rfl rfl rfl rfl ?_
              refine Agg.chMove rfl rfl rfl rfl ?_
              refine Agg.chGt true d3 rfl rfl rfl rfl rfl ?_
              refine Agg.chPick rfl rfl rfl rfl rfl ?_
              refine Agg.chMove rfl rfl rfl rfl ?_
              refine Agg.chSkip rfl rfl ?_
              refine Agg.chSkip rfl rfl ?_
              refine Agg.chSkip rfl rfl ?_
              refine Agg.chPick rfl rfl rfl rfl rfl ?_
              refine Agg.chEnd ?_
              intro vs w33 hb _
              simp only [List.reverse, List.reverseAux, Agg.fill, List.set_cons_succ, List.set_cons_zero]
              replace HB := Lib.hid (HB.out.trans (hb.mono HB.out.size))
              clear hb
              go_wp2_with fail
              go_meet
              exact ⟨rfl, HB.out⟩
            · skip
              have d3 : decide (at0 > 16) = false := decide_eq_false c3
              by_cases c4 : stampP n
              · have c5 : ¬ (mB = 0 ∨ at0 < 0 ∨ 16 < at0 ∨ n < 1 ∨ 4611686018427387904 < n) := by unfold stampP at c4; omega
                have hyb := HYB2.out
                rw [if_neg c5] at hyb
                have HYB3 := Lib.hid hyb
                have HC4 := Lib.hid c4
                have hst : 1 ≤ n ∧ n ≤ 4611686018427387904 := c4
                clear hyb c5 c4 HYB2
                go_upto_region 10 with (fail)
                refine Agg.listR 15 (by kernel_rfl) ?_
                simp only [List.take_succ_cons, List.take_zero, List.drop_succ_cons, List.drop_zero]
                refine Agg.chMove rfl rfl rfl rfl ?_
                refine Agg.chEq false d1 rfl rfl rfl rfl rfl ?_
                refine Agg.chMove rfl rfl rfl rfl ?_
                refine Agg.chMove rfl rfl rfl rfl ?_
                refine Agg.chLt false d2 rfl rfl rfl rfl rfl ?_
                refine Agg.chPick rfl rfl rfl rfl rfl ?_
                refine Agg.chMove rfl rfl rfl rfl ?_
                refine Agg.chMove rfl rfl rfl rfl ?_
                refine Agg.chGt false d3 rfl rfl rfl rfl rfl ?_
                refine Agg.chPick rfl rfl rfl rfl rfl ?_
                refine Agg.chMove rfl rfl rfl rfl ?_
                refine Agg.chMove rfl rfl rfl rfl ?_
                refine Agg.chCall Try.func21 rfl (by kernel_rfl) rfl rfl rfl rfl (fun W hb => stamped_any n W true (by simpa using HC4.out)) ?_
                refine Agg.chNot rfl rfl rfl rfl ?_
                refine Agg.chPick rfl rfl rfl rfl rfl ?_
                refine Agg.chEnd ?_
                intro vs w34 hb _
                simp only [List.reverse, List.reverseAux, Agg.fill, List.set_cons_succ, List.set_cons_zero]
                replace HB := Lib.hid (HB.out.trans (hb.mono HB.out.size))
                clear hb
                by_cases c6 : 16 - at0 < (mB : Int)
                · have hyb := HYB3.out
                  rw [if_pos c6] at hyb
                  subst hyb
                  go_wp2_with fail
                  go_meet
                  exact ⟨rfl, HB.out⟩
                · skip
                  have hyb := HYB3.out
                  rw [if_neg c6] at hyb
                  have HYB4 := Lib.hid hyb
                  clear hyb
                  by_cases c7 : 4611686018427387904 - (n : Int) < (mB : Int) - 1
                  · have hyb := HYB4.out
                    rw [if_pos c7] at hyb
                    subst hyb
                    go_wp2_with fail
                    go_meet
                    exact ⟨rfl, HB.out⟩
                  · have hyb := HYB4.out
                    rw [if_neg c7] at hyb
                    subst hyb
                    go_wp2_with fail
                    go_meet
                    exact ⟨rfl, HB.out⟩
              · skip
                have c5 : n < 1 ∨ 4611686018427387904 < n := by unfold stampP at c4; omega
                obtain rfl : y = 2 := by have := HYB2.out; rw [if_pos (by omega)] at this; exact this.symm
                have HC4 := Lib.hid c4
                clear c4 c5
                go_upto_region 10 with (fail)
                refine Agg.listR 15 (by kernel_rfl) ?_
                simp only [List.take_succ_cons, List.take_zero, List.drop_succ_cons, List.drop_zero]
                refine Agg.chMove rfl rfl rfl rfl ?_
                refine Agg.chEq false d1 rfl rfl rfl rfl rfl ?_
                refine Agg.chMove rfl rfl rfl rfl ?_
                refine Agg.chMove rfl rfl rfl rfl ?_
                refine Agg.chLt false d2 rfl rfl rfl rfl rfl ?_
                refine Agg.chPick rfl rfl rfl rfl rfl ?_
                refine Agg.chMove rfl rfl rfl rfl ?_
                refine Agg.chMove rfl rfl rfl rfl ?_
                refine Agg.chGt false d3 rfl rfl rfl rfl rfl ?_
                refine Agg.chPick rfl rfl rfl rfl rfl ?_
                refine Agg.chMove rfl rfl rfl rfl ?_
                refine Agg.chMove rfl rfl rfl rfl ?_
                refine Agg.chCall Try.func21 rfl (by kernel_rfl) rfl rfl rfl rfl (fun W hb => stamped_any n W false (by simpa using HC4.out)) ?_
                refine Agg.chNot rfl rfl rfl rfl ?_
                refine Agg.chPick rfl rfl rfl rfl rfl ?_
                refine Agg.chEnd ?_
                intro vs w35 hb _
                simp only [List.reverse, List.reverseAux, Agg.fill, List.set_cons_succ, List.set_cons_zero]
                replace HB := Lib.hid (HB.out.trans (hb.mono HB.out.size))
                clear hb
                go_wp2_with fail
                go_meet
                exact ⟨rfl, HB.out⟩
      case rest =>
        obtain ⟨rfl, hbc⟩ := hcut
        have HB := Lib.hid (HBZ.out.trans (hbc.mono HBZ.out.size))
        have H9 := Lib.hid (H9Z.out.keep hbc)
        have HDO := Lib.hid (HDOZ.out.keep hbc)
        have HYB := Lib.hid (Agg.Bytes.keep HYBZ.out hbc)
        have HGO := Lib.hid (HGOZ.out.keep hbc)
        have H11 := Lib.hid (H11Z.out.keep hbc)
        clear hbc HBZ H9Z HDOZ HYBZ HGOZ H11Z HYB2 HB0
        by_cases hy0 : y = 0
        · subst hy0
          obtain ⟨q1, q2, q3, q4, q5, q6, q7⟩ := whyG_zero HY.out
          obtain ⟨a, rfl⟩ : ∃ a : Nat, at0 = (a : Int) := ⟨at0.toNat, by omega⟩
          rw [HME.out] at q6 q7
          obtain ⟨PR, hPR⟩ : ∃ p, putsP O (wrsG a n B mB mB) = p := ⟨_, rfl⟩
          have hGv : G = if PR.1 ≠ 0 then PR else goesP PR.2 (flushP PR.2) := by
            rw [← HG.out]; unfold putG
            rw [if_neg (by rw [HAS.out]; decide), if_neg (by rw [HAS.out]; decide), if_neg (by rw [HY.out]; decide), Int.toNat_natCast, HME.out, hPR]
          have HGV := Lib.hid hGv
          have HPR := Lib.hid hPR
          have hrq := rbl_eq (n := n) (B := B) (m := mB) (by omega) (by omega) mB (Nat.le_refl _)
          have HBK := Lib.hid (fun W (h : Bytes W (.slice bx nl bc) B) => rgBlocks_any n B (.slice bx nl bc) mB W h (by have := HBL.out; omega) HMB.out (by omega))
          rw [hrq] at HBK
          clear hGv hPR hrq HG HY
          go_wp2_with fail
          refine (HBK.out wc HYB.out).mono ?_
          rintro e w61 ⟨u, rfl, hu, hb⟩
          replace HB := Lib.hid (HB.out.trans (hb.mono HB.out.size))
          replace H9 := Lib.hid (H9.out.keep hb)
          replace HDO := Lib.hid (HDO.out.keep hb)
          replace HYB := Lib.hid (HYB.out.keep hb)
          replace HGO := Lib.hid (HGO.out.keep hb)
          replace H11 := Lib.hid (H11.out.keep hb)
          clear hb
          clear HBK HYB
          obtain ⟨ux, uc, rfl, _, _⟩ := (ownSl hu).shape
          have HU := Lib.hid (own_base hu (Nat.zero_le _))
          obtain ⟨px0, cx0, pc0, cc0, hde, hpg0, hwr0⟩ := HDO.out.read
          cases hde
          have HK9 : Hid (DevK w61 g9 O) := Lib.hid ⟨px9, cx9, pc9, cc9, H9.out, hpg0, hwr0⟩
          have HLU : Hid (∀ b ∈ blkG n B mB mB, (blkC b).length = 132) := Lib.hid (fun b hb => bok_cells (blkG_bok n B mB mB b hb))
          clear hu hpg0 hwr0 HDO
          go_wp2_with fail
          obtain ⟨wY, hwY⟩ : ∃ x, x = w61 := ⟨_, rfl⟩
          subst hwY
          have HBY := HB
          have H9Y := H9
          have H11Y := H11
          have HGOY := HGO
          have HUY := HU
          have hd := HOG.out
          have hdl := HOL.out
          clear HB H9 H11 HGO HU
          go_loopw [99, 13, 15, 16] (fun ix s13 _ _ wr => ∃ (k : Nat) (dk : Dev), k ≤ mB ∧ ix = .int .i64 k ∧ s13 = .int .i64 0 ∧ DGood dk ∧ dk.cache.length ≤ 10000 + k ∧ putsP dk ((wrsG a n B mB mB).drop k) = PR ∧ DevK wr g9 dk ∧ wY.grownBy wr (some g9)) (fun ix _ _ _ _ => mB - (intOf ix).toNat)
          case atStart => exact ⟨0, O, by omega, rfl, rfl, hd, by omega, HPR.out, HK9.out, World.grownBy.refl _ _⟩
          case round =>
            clear hd hdl
            obtain ⟨k, dk, hk, rfl, rfl, hdk, hck, hrk, hlk, hgw⟩ := hrel
            have HDK := Lib.hid hdk
            have HGW := Lib.hid hgw
            have hlw9 := HNE.out.2
            have HB := Lib.hid (HBY.out.trans (grown_below hgw HBY.out.size (fun j e => by cases e; exact hlw9)))
            have H11 := Lib.hid (H11Y.out.far' hgw (Ne.symm HN11.out.1))
            have HU := Lib.hid (World.ownsRow.kept HUY.out hgw (own_apart HUY.out H9Y.out (by decide)))
            have HGO := Lib.hid (DevO.far HGOY.out H9Y.out (by decide) (by decide) hgw)
            obtain ⟨px, cx, pc, cc, hk1, hk2, hk3⟩ := hlk
            have HK := Lib.hid hk1
            have HPG := Lib.hid hk2
            have HWG := Lib.hid hk3
            have HRK := Lib.hid hrk
            clear hdk hgw hk1 hk2 hk3 hrk HK9
            obtain ⟨wA, hwA⟩ : ∃ x, x = wr := ⟨_, rfl⟩
            subst hwA
            have HFA : Hid (From wA wA) := Lib.hid (Below.refl _ _)
            by_cases hlt : k < mB
            · have hst := HRK.out
              rw [wrsG_drop a n B mB k hlt, putsP] at hst
              have hul := ownSl HU.out
              obtain ⟨ub, uo, uc', hve, _, _, _, _⟩ := SlR.pos hul (by decide) (by omega)
              simp only [Value.slice.injEq, true_and] at hve
              obtain ⟨rfl, rfl⟩ := hve
              have hi1 : k < (blkG n B mB mB).length := by rw [blkG_length]; exact hlt
              have hul2 : Blks wA (.slice (some ⟨ub, uo, none⟩) mB uc) (blkG n B mB mB) := by
                show SlR _ _ _ _ _
                rw [blkG_length]; exact hul
              have hcs := fun j v hv => blks_at hul2 HLU.out hi1 j v hv
              rw [blkG_get] at hcs
              have hbo := layL_bok (partL B mB k) (n + k)
              obtain ⟨bl, hbl2⟩ : ∃ y, layL (partL B mB k) (n + k) = y := ⟨_, rfl⟩
              rw [hbl2] at hst hcs hbo
              obtain ⟨g, hg⟩ : ∃ g, goesP dk (putP dk (2 + (a : Int) + (k : Int)) bl) = g := ⟨_, rfl⟩
              have hgg : DGood g.2 := by rw [← hg]; exact goesP_good HDK.out (putP_good HDK.out _ hbo)
              have hgc : g.2.cache.length ≤ 10000 + (k + 1) := by
                rw [← hg]
                exact goesP_len (by omega) (Nat.le_trans (putP_len1 dk _ bl) (by omega))
              rw [hg] at hst
              have HPUT := Lib.hid (fun W v hv => put_R (w := W) (v := v) HDK.out (by omega) hv (2 + (a : Int) + (k : Int)) hbo)
              rw [hg] at HPUT
              have HST := Lib.hid hst
              have HGD := Lib.hid hgg
              have HBO := Lib.hid hbo
              clear hst hul hul2 hi1 hbo hbl2 hg hgg HRK HU
              have h132 := bok_cells HBO.out
              have hone := blkC_one bl
              go_upto_region 21 with (first
                | (refine Agg.gLoad 132 (blkC bl) rfl rfl rfl (by decide +kernel) h132 hcs ?_; simp only [Act.put, List.setIfInBounds_toArray, List.set_cons_succ, List.set_cons_zero])
                | (refine Agg.allocRow 54 (blkC zeroB).toArray rfl rfl (by kernel_rfl) ?_; simp only [Act.put, List.setIfInBounds_toArray, List.set_cons_succ, List.set_cons_zero])
                | (refine Agg.gStoreNew 132 (blkC bl) rfl rfl rfl rfl rfl rfl (by decide +kernel) h132 zero132 hone ?_; simp only [Act.put]))
              clear hcs
              refine Agg.wp_at fun w81 hw81 => ?_
              have hb : Below wA.heap.size wA w81 := by rw [hw81.out]; repeat (first | exact Below.refl _ _ | refine Agg.bel_drew ?_ | refine Agg.bel_alloc ?_ _)
              replace HB := Lib.hid (HB.out.trans (hb.mono HB.out.size))
              replace H11 := Lib.hid (H11.out.keep hb)
              replace HGO := Lib.hid (HGO.out.keep hb)
              replace HK := Lib.hid (HK.out.keep hb)
              replace HPG := Lib.hid (HPG.out.keep hb)
              replace HWG := Lib.hid (HWG.out.keep hb)
              replace HFA := Lib.hid (HFA.out.keep hb)
              clear hb
              have HX : Hid (Blk w81 wA.heap.size 54 (blkC bl)) := by show Blk _ _ _ _; rw [hw81.out]; exact Blk.new wA 54 (blkC bl).toArray
              clear hw81
              generalize wA.heap.size = g16 at *
              have HDV : Hid (DevR w81 (.agg #[.slice px dk.pages.length pc, .slice cx dk.cache.length cc, .int .i64 dk.fuse, .bool dk.off]) dk) := Lib.hid ⟨px, cx, pc, cc, rfl, HPG.out, HWG.out⟩
              have hx := HX.out
              have hk4 := HK.out
              go_wp2_with (first
                | (refine Agg.gLoadB 4 hk4 rfl rfl rfl rfl (by decide +kernel) ?_; simp only [Act.put, List.setIfInBounds_toArray, List.set_cons_succ, List.set_cons_zero])
                | (refine Agg.gLoadB 132 hx h132 rfl rfl rfl (by decide +kernel) ?_; simp only [Act.put, List.setIfInBounds_toArray, List.set_cons_succ, List.set_cons_zero]))
              clear hx hk4 h132 hone
              refine (HPUT.out w81 _ HDV.out).mono ?_
              rintro e w90 ⟨v, rfl, hdo, hb⟩
              obtain ⟨py, cy, rfl, hpy, hcy⟩ := hdo
              obtain ⟨pxy, pcy, rfl, _, _⟩ := (ownSl hpy).shape
              obtain ⟨cxy, ccy, rfl, _, _⟩ := (ownSl hcy).shape
              have hk9 := HK.out.keep hb
              have h11 := H11.out.keep hb
              have hgo := HGO.out.keep hb
              have hbA9 : Below wA.heap.size wA w90 := Below.trans HFA.out (hb.mono (Below.size HFA.out))
              have hgY9 := grown_same HGW.out (below_grownBy hbA9 (some g9))
              have hb90 := HB.out.trans (hb.mono HB.out.size)
              have hst := HST.out
              clear hb hbA9
              by_cases hz : g.1 = 0
              · rw [hz] at hst ⊢
                rw [if_neg (by simp)] at hst
                have HST2 := Lib.hid hst
                clear hst HST hz
                go_wp2_with (refine Agg.gStoreB 4 [.slice pxy g.2.pages.length pcy, .slice cxy g.2.cache.length ccy, .int .i64 g.2.fuse, .bool g.2.off] hk9 rfl rfl rfl rfl rfl (by decide +kernel) rfl rfl (by simp [Value.oneCell']) (fun w95 hb95 hg95 => ?_))
                have hp95 := ownSl (hpy.kept hg95 (own_apart hpy hk9 (by decide)))
                have hc95 := ownSl (hcy.kept hg95 (own_apart hcy hk9 (by decide)))
                have hdv : DevK w95 g9 g.2 := ⟨_, _, _, _, hb95, hp95, hc95⟩
                have hgz := grown_same hgY9 hg95
                exact ⟨⟨k + 1, g.2, by omega, by go_num, rfl, HGD.out, hgc, HST2.out, hdv, hgz⟩, by simp [intOf]; omega⟩
              · have hzb : (g.1 != 0) = true := bne_iff_ne.2 hz
                rw [if_pos hz] at hst
                have hgv := HGV.out
                rw [← hst, if_pos hz] at hgv
                have HGE := Lib.hid hgv
                have hg1 : ((G.1 : Int) == g.1) = true := by rw [hgv]; simp
                have hg2 : G.2 = g.2 := by rw [hgv]
                have HQ := Lib.hid (And.intro hg1 hg2)
                clear hst HST hz HGV HPR hgv hg1 hg2
                clear hgY9 HGW HDK HFA HX HDV
                go_upto_region 22 with (refine Agg.gStoreB 4 [.slice pxy g.2.pages.length pcy, .slice cxy g.2.cache.length ccy, .int .i64 g.2.fuse, .bool g.2.off] hk9 rfl rfl rfl rfl rfl (by decide +kernel) rfl rfl (by simp [Value.oneCell']) (fun w95 hb95 hg95 => ?_))
                have HDN := Lib.hid (DevO.base (DevO.far ⟨_, _, rfl, hpy, hcy⟩ hk9 (by decide) (by decide) hg95) (Nat.zero_le _))
                have H9 := Lib.hid hb95
                replace H11 := Lib.hid (h11.far' hg95 (Ne.symm HN11.out.1))
                replace HGO := Lib.hid (DevO.far hgo hk9 (by decide) (by decide) hg95)
                replace HB := Lib.hid (hb90.trans (grown_below hg95 hb90.size (fun j hj => by cases hj; exact hlw9)))
                clear hb95 hk9 h11 hgo hb90 hg95 hpy hcy HK HPG HWG
                go_upto_region 23 with (fail)
                refine Agg.listR 8 (by kernel_rfl) ?_
                simp only [List.take_succ_cons, List.take_zero, List.drop_succ_cons, List.drop_zero]
                refine Agg.chMove rfl rfl rfl rfl ?_
                refine Agg.chMove rfl rfl rfl rfl ?_
                refine Agg.chEq true HQ.out.1 rfl rfl rfl rfl rfl ?_
                refine Agg.chMove rfl rfl rfl rfl ?_
                refine Agg.chRowB 4 H11.out rfl (by decide +kernel) rfl rfl rfl rfl ?_
                refine Agg.chRowB 4 H9.out rfl (by decide +kernel) rfl rfl rfl rfl ?_
                refine Agg.chCall Try.func20 rfl (by kernel_rfl) rfl rfl rfl rfl (fun W hb => HSG.out W _ _ (HGO.out.keep hb).read g.2 HGD.out (HDN.out.keep hb).read HQ.out.2) ?_
                refine Agg.chPick rfl rfl rfl rfl rfl ?_
                refine Agg.chEnd ?_
                intro vs w101 hb _
                simp only [List.reverse, List.reverseAux, Agg.fill, List.set_cons_succ, List.set_cons_zero]
                replace HB := Lib.hid (HB.out.trans (hb.mono HB.out.size))
                replace H9 := Lib.hid (H9.out.keep hb)
                replace H11 := Lib.hid (H11.out.keep hb)
                replace HGO := Lib.hid (HGO.out.keep hb)
                replace HDN := Lib.hid (HDN.out.keep hb)
                clear hb
                go_wp2_with fail
                go_ret
                exact ⟨rfl, HB.out⟩
            · obtain rfl : k = mB := by omega
              have hst := HRK.out
              rw [List.drop_of_length_le (by rw [wrsG_length]; exact Nat.le_refl _), putsP] at hst
              have hgv := HGV.out
              rw [← hst, if_neg (by simp)] at hgv
              dsimp only at hgv
              have HFL := Lib.hid (fun W v hv => flush_R (w := W) (v := v) (d := dk) HDK.out (by omega) hv)
              obtain ⟨g, hg⟩ : ∃ g, goesP dk (flushP dk) = g := ⟨_, rfl⟩
              rw [hg] at hgv HFL
              have HGD : Hid (DGood g.2) := Lib.hid (by rw [← hg]; exact goesP_good HDK.out (flushP_good HDK.out))
              have hg1 : ((G.1 : Int) == g.1) = true := by rw [hgv]; simp
              have hg2 : G.2 = g.2 := by rw [hgv]
              have HQ := Lib.hid (And.intro hg1 hg2)
              have HDV : Hid (DevR wA (.agg #[.slice px dk.pages.length pc, .slice cx dk.cache.length cc, .int .i64 dk.fuse, .bool dk.off]) dk) := Lib.hid ⟨px, cx, pc, cc, rfl, HPG.out, HWG.out⟩
              clear hst HRK HGV HPR HU hgv hg hg1 hg2
              have hk4 := HK.out
              go_wp2_with (refine Agg.gLoadB 4 hk4 rfl rfl rfl rfl (by decide +kernel) ?_; simp only [Act.put, List.setIfInBounds_toArray, List.set_cons_succ, List.set_cons_zero])
              clear hk4
              refine (HFL.out wA _ HDV.out).mono ?_
              rintro e w90 ⟨v, rfl, hdo, hb⟩
              obtain ⟨py, cy, rfl, hpy, hcy⟩ := hdo
              obtain ⟨pxy, pcy, rfl, _, _⟩ := (ownSl hpy).shape
              obtain ⟨cxy, ccy, rfl, _, _⟩ := (ownSl hcy).shape
              have hk9 := HK.out.keep hb
              have h11 := H11.out.keep hb
              have hgo := HGO.out.keep hb
              have hb90 := HB.out.trans (hb.mono HB.out.size)
              clear hb HFL HDK HGW HFA HDV
              go_upto_region 26 with (refine Agg.gStoreB 4 [.slice pxy g.2.pages.length pcy, .slice cxy g.2.cache.length ccy, .int .i64 g.2.fuse, .bool g.2.off] hk9 rfl rfl rfl rfl rfl (by decide +kernel) rfl rfl (by simp [Value.oneCell']) (fun w95 hb95 hg95 => ?_))
              have HDN := Lib.hid (DevO.base (DevO.far ⟨_, _, rfl, hpy, hcy⟩ hk9 (by decide) (by decide) hg95) (Nat.zero_le _))
              have H9 := Lib.hid hb95
              replace H11 := Lib.hid (h11.far' hg95 (Ne.symm HN11.out.1))
              replace HGO := Lib.hid (DevO.far hgo hk9 (by decide) (by decide) hg95)
              replace HB := Lib.hid (hb90.trans (grown_below hg95 hb90.size (fun j hj => by cases hj; exact hlw9)))
              clear hb95 hk9 h11 hgo hb90 hg95 hpy hcy HK HPG HWG
              refine Agg.listR 8 (by kernel_rfl) ?_
              simp only [List.take_succ_cons, List.take_zero, List.drop_succ_cons, List.drop_zero]
              refine Agg.chMove rfl rfl rfl rfl ?_
              refine Agg.chMove rfl rfl rfl rfl ?_
              refine Agg.chEq true HQ.out.1 rfl rfl rfl rfl rfl ?_
              refine Agg.chMove rfl rfl rfl rfl ?_
              refine Agg.chRowB 4 H11.out rfl (by decide +kernel) rfl rfl rfl rfl ?_
              refine Agg.chRowB 4 H9.out rfl (by decide +kernel) rfl rfl rfl rfl ?_
              refine Agg.chCall Try.func20 rfl (by kernel_rfl) rfl rfl rfl rfl (fun W hb => HSG.out W _ _ (HGO.out.keep hb).read g.2 HGD.out (HDN.out.keep hb).read HQ.out.2) ?_
              refine Agg.chPick rfl rfl rfl rfl rfl ?_
              refine Agg.chEnd ?_
              intro vs w101 hb _
              simp only [List.reverse, List.reverseAux, Agg.fill, List.set_cons_succ, List.set_cons_zero]
              replace HB := Lib.hid (HB.out.trans (hb.mono HB.out.size))
              replace H9 := Lib.hid (H9.out.keep hb)
              replace H11 := Lib.hid (H11.out.keep hb)
              replace HGO := Lib.hid (HGO.out.keep hb)
              replace HDN := Lib.hid (HDN.out.keep hb)
              clear hb
              go_wp2_with fail
              go_ret
              exact ⟨rfl, HB.out⟩
        · have hG : G = (y, dev0) := by
            rw [← HG.out]; unfold putG
            rw [if_neg (by rw [HAS.out]; decide), if_neg (by rw [HAS.out]; decide), if_pos (by rw [HY.out]; exact hy0), HY.out]
          have hyb : (y != 0) = true := bne_iff_ne.2 hy0
          have hg1 : ((G.1 : Int) == y) = true := by rw [hG]; simp
          have hg2 : G.2 = dev0 := by rw [hG]
          have HQ := Lib.hid (And.intro hg1 hg2)
          clear hG hg1 hg2 hy0
          go_upto_region 17 with (fail)
          refine Agg.listR 8 (by kernel_rfl) ?_
          simp only [List.take_succ_cons, List.take_zero, List.drop_succ_cons, List.drop_zero]
          refine Agg.chMove rfl rfl rfl rfl ?_
          refine Agg.chMove rfl rfl rfl rfl ?_
          refine Agg.chEq true HQ.out.1 rfl rfl rfl rfl rfl ?_
          refine Agg.chMove rfl rfl rfl rfl ?_
          refine Agg.chRowB 4 H11.out rfl (by decide +kernel) rfl rfl rfl rfl ?_
          refine Agg.chBuild (v := .agg #[.slice none 0 0, .slice none 0 0, .int .i64 0, .bool false]) rfl rfl rfl rfl (fun W => by simp [go_sem]) ?_
          refine Agg.chCall Try.func20 rfl (by kernel_rfl) rfl rfl rfl rfl (fun W hb => HSG.out W _ _ (HGO.out.keep hb).read dev0 dev0_good (devO_zero 0 W).read HQ.out.2) ?_
          refine Agg.chPick rfl rfl rfl rfl rfl ?_
          refine Agg.chEnd ?_
          intro vs w102 hb _
          simp only [List.reverse, List.reverseAux, Agg.fill, List.set_cons_succ, List.set_cons_zero]
          replace HB := Lib.hid (HB.out.trans (hb.mono HB.out.size))
          replace H9 := Lib.hid (H9.out.keep hb)
          replace HDO := Lib.hid (HDO.out.keep hb)
          replace HYB := Lib.hid (HYB.out.keep hb)
          replace HGO := Lib.hid (HGO.out.keep hb)
          replace H11 := Lib.hid (H11.out.keep hb)
          clear hb
          go_wp2_with fail
          go_ret
          exact ⟨rfl, HB.out⟩
  · skip
    have hck2 : ck = 260 := by rw [if_neg hr] at hck; exact hck.symm
    subst hck2
    have ha : askL O = 260 := by unfold askL; rw [if_neg hr]
    have hG : G = (260, dev0) := by
      rw [← HG.out]; unfold putG; rw [if_neg (by rw [ha]; decide), if_pos (by rw [ha]; decide)]
    have hg1 : ((G.1 : Int) == 260) = true := by rw [hG]; rfl
    have hg2 : G.2 = dev0 := by rw [hG]
    have HQ := Lib.hid (And.intro hg1 hg2)
    clear ha hG hg1 hg2 hr hck
    go_upto_region 6 with (fail)
    refine Agg.listR 6 (by kernel_rfl) ?_
    simp only [List.take_succ_cons, List.take_zero, List.drop_succ_cons, List.drop_zero]
    refine Agg.chMove rfl rfl rfl rfl ?_
    refine Agg.chEq false (by decide) rfl rfl rfl rfl rfl ?_
    refine Agg.chMove rfl rfl rfl rfl ?_
    refine Agg.chSkip rfl rfl ?_
    refine Agg.chSkip rfl rfl ?_
    refine Agg.chPick rfl rfl rfl rfl rfl ?_
    refine Agg.chEnd ?_
    intro vs w103 hb _
    show Exit.then _ _ Exit.normal _ _
    simp only [List.reverse, List.reverseAux, Agg.fill, List.set_cons_succ, List.set_cons_zero]
    replace HB := Lib.hid (HB.out.trans (hb.mono HB.out.size))
    replace H9 := Lib.hid (H9.out.keep hb)
    replace HDO := Lib.hid (HDO.out.keep hb)
    replace HYB := Lib.hid (HYB.out.keep hb)
    replace HGO := Lib.hid (HGO.out.keep hb)
    replace H11 := Lib.hid (H11.out.keep hb)
    clear hb
    go_upto_region 17 with (fail)
    refine Agg.listR 8 (by kernel_rfl) ?_
    simp only [List.take_succ_cons, List.take_zero, List.drop_succ_cons, List.drop_zero]
    refine Agg.chMove rfl rfl rfl rfl ?_
    refine Agg.chMove rfl rfl rfl rfl ?_
    refine Agg.chEq true HQ.out.1 rfl rfl rfl rfl rfl ?_
    refine Agg.chMove rfl rfl rfl rfl ?_
    refine Agg.chRowB 4 H11.out rfl (by decide +kernel) rfl rfl rfl rfl ?_
    refine Agg.chBuild (v := .agg #[.slice none 0 0, .slice none 0 0, .int .i64 0, .bool false]) rfl rfl rfl rfl (fun W => by simp [go_sem]) ?_
    refine Agg.chCall Try.func20 rfl (by kernel_rfl) rfl rfl rfl rfl (fun W hb => HSG.out W _ _ (HGO.out.keep hb).read dev0 dev0_good (devO_zero 0 W).read HQ.out.2) ?_
    refine Agg.chPick rfl rfl rfl rfl rfl ?_
    refine Agg.chEnd ?_
    intro vs w104 hb _
    simp only [List.reverse, List.reverseAux, Agg.fill, List.set_cons_succ, List.set_cons_zero]
    replace HB := Lib.hid (HB.out.trans (hb.mono HB.out.size))
    replace H9 := Lib.hid (H9.out.keep hb)
    replace HDO := Lib.hid (HDO.out.keep hb)
    replace HYB := Lib.hid (HYB.out.keep hb)
    replace HGO := Lib.hid (HGO.out.keep hb)
    replace H11 := Lib.hid (H11.out.keep hb)
    clear hb
    go_wp2_with fail
    go_ret
    exact ⟨rfl, HB.out⟩
theorem LogPuts_walk (c0 : Array Value) (f0 : Nat) (a1 a2 : Int) (v3 : Value) (l3 : List UInt8) (w : World) (g0 : Agg.Good Try.prog w f0 28 c0.toList) (h1 : (Lit.int .i64 a1).wf = true) (h2 : (Lit.int .u64 a2).wf = true) (y3 : Bytes w v3 l3) (_m3 : l3.length ≤ maxLen) :
    Calls Try.prog 6 #[.agg c0, .int .i64 a1, .int .u64 a2, v3] w fun e w' => e = .returned (.bool true) ∧ Below w.heap.size w w' := by
  obtain ⟨d, hD, hW, hf1, hf2⟩ := good_dev g0
  obtain ⟨n, rfl, hn⟩ := u64_nat h2
  have hi : -9223372036854775808 ≤ a1 ∧ a1 ≤ 9223372036854775807 := by
    simp [Lit.wf, IntKind.min, IntKind.max, IntKind.bits, IntKind.signed] at h1; omega
  exact puts_walk d a1 n l3 _ v3 w hW hf1 hf2 hD y3 hn hi.1 hi.2
end Go.Proofs.Ytlddjcilbpcciaa
