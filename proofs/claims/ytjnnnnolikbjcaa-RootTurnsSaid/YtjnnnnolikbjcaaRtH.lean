/-
  ROOTS: Put.
-/
import Derived.Test.YtjnnnnolikbjcaaRtG
import Derived.Test.YtjnnnnolikbjcaaRFdDw1
namespace Go.Proofs.Ytjnnnnolikbjcaa
open Go.ChangeShapes Go.WideShapes Go.ChangeAt Go.RowKit Agg Pg Dv
attribute [local go_sem] Oper.semAt_some

set_option maxHeartbeats 4000000 in
set_option maxRecDepth 100000 in
theorem readyI_any (d : Dev) (dv : Value) (cf : FuncId) (caps : Array Value) (e2 : Int) (w : World) (hd : DevR w dv d) (hg : DGood d) (hen : ∀ args w, (callFunc cf args).run Try.prog w = .ok (.enter cf args) w)
    (hcl : rightD d = true → d.off = false → ∀ W, Below w.heap.size w W → Calls Try.prog cf caps W fun e w' => e = .returned (.tuple #[.int .i64 0, .int .i64 e2]) ∧ Below W.heap.size W w')
    (e3 : Int) (he3 : (if whyD d ≠ 0 then whyD d else e2) = e3) :
    Calls Try.prog 39 #[dv, .func (.func cf) #[] caps] w fun e w' => e = .returned (.tuple #[.int .i64 0, .int .i64 e3]) ∧ Below w.heap.size w w' := by
  obtain ⟨px, pc, cx, cc, rfl⟩ := hd.shape
  have HCK := Lib.hid (fun W v h => check_R (w := W) (v := v) hg h)
  have HCL := Lib.hid hcl
  have HD := Lib.hid hd
  have HE3 := Lib.hid he3
  clear hcl hd he3 hg
  obtain ⟨q, hq⟩ : ∃ q, rightD d = q := ⟨_, rfl⟩
  rw [hq] at HCK
  have HQ := Lib.hid hq
  clear hq
  have HB := Lib.hid (Below.refl w.heap.size w)
  go_enter Try.func39, Try.ntmps39
  go_upto_region 2 with (fail)
  refine Agg.wp_at fun w1 hw1 => ?_
  have hb : Below w.heap.size w w1 := by rw [hw1.out]; repeat (first | exact Below.refl _ _ | refine Agg.bel_drew ?_ | refine Agg.bel_alloc ?_ _)
  replace HB := Lib.hid (HB.out.trans (hb.mono HB.out.size))
  replace HD := Lib.hid (HD.out.keep hb)
  clear hb
  have H2 : Hid (Blk w1 w.heap.size 30 [.slice px d.pages.length pc, .slice cx d.cache.length cc, .int .i64 d.fuse, .bool d.off]) := by show Blk _ _ _ _; rw [hw1.out]; exact Blk.new w 30 #[.slice px d.pages.length pc, .slice cx d.cache.length cc, .int .i64 d.fuse, .bool d.off]
  clear hw1
  have h2 := H2.out
  go_wp2_with (refine Agg.gLoadB 4 h2 rfl rfl rfl rfl (by decide +kernel) ?_; simp only [Act.put, List.setIfInBounds_toArray, List.set_cons_succ, List.set_cons_zero])
  clear h2
  refine (HCK.out w1 _ HD.out).mono ?_
  rintro e w2 ⟨rfl, hb⟩
  replace HB := Lib.hid (HB.out.trans (hb.mono HB.out.size))
  replace HD := Lib.hid (HD.out.keep hb)
  replace H2 := Lib.hid (H2.out.keep hb)
  clear hb
  have hsz := HB.out.size
  cases q
  · have hw := why_260 HQ.out
    obtain rfl : e3 = 260 := by rw [← HE3.out, hw]; rfl
    clear hw
    go_wp2_with fail
    go_ret2
    exact ⟨rfl, HB.out⟩
  · obtain ⟨qo, hqo⟩ : ∃ q, d.off = q := ⟨_, rfl⟩
    have HQO := Lib.hid hqo
    have c23 := H2.out.cell 3
    simp only [List.getElem?_cons_zero, List.getElem?_cons_succ] at c23
    rw [hqo] at c23
    clear hqo
    cases qo
    · have hw := why_0 HQ.out HQO.out
      obtain rfl : e3 = e2 := by rw [← HE3.out, hw]; rfl
      have HC2 := Lib.hid (HCL.out HQ.out HQO.out w2 HB.out)
      clear hw HCL
      go_wp2_with fail
      clear c23
      refine HC2.out.mono ?_
      rintro e w9 ⟨rfl, hb9⟩
      have HB9 := Lib.hid (HB.out.trans (hb9.mono hsz))
      clear hb9 HC2 HB
      go_wp2_with fail
      go_ret2
      exact ⟨rfl, HB9.out⟩
    · have hw := why_10 HQ.out HQO.out
      obtain rfl : e3 = 10 := by rw [← HE3.out, hw]; rfl
      clear hw
      go_wp2_with fail
      go_ret2
      exact ⟨rfl, HB.out⟩
set_option maxHeartbeats 4000000 in
set_option maxRecDepth 100000 in
theorem rtPutC_any (d : Dev) (r : Rt) (px cx x : Option Addr) (pc cc c gr gd : Nat) (w : World) (hw : RtW r)
    (hD : DevR w (.agg #[.slice px d.pages.length pc, .slice cx d.cache.length cc, .int .i64 d.fuse, .bool d.off]) d) (hgd : Blk w gd 30 [.slice px d.pages.length pc, .slice cx d.cache.length cc, .int .i64 d.fuse, .bool d.off])
    (hR : RtR w (.agg #[.int .i64 r.slot, .int .u64 (r.stamp : Int), .slice x r.pages.length c, .int .i64 r.bytes]) r) (hgr : Blk w gr 26 [.int .i64 r.slot, .int .u64 (r.stamp : Int), .slice x r.pages.length c, .int .i64 r.bytes])
    (e2 : Int) (he2 : (if rightB r = false ∨ ofB d.pages.length r = false then (330 : Int) else 0) = e2) :
    Calls Try.prog 40 #[.pointer (some ⟨gr, 0, none⟩), .pointer (some ⟨gd, 0, none⟩)] w fun e w' => e = .returned (.tuple #[.int .i64 0, .int .i64 e2]) ∧ Below w.heap.size w w' := by
  have HCK := Lib.hid (fun W v h => rtCheck_any r v W h hw)
  have HOF := Lib.hid (fun W u v h1 h2 => of_any' d u r v W h1 h2 _ rfl)
  obtain ⟨q1, hq1⟩ : ∃ q, rightB r = q := ⟨_, rfl⟩
  obtain ⟨q2, hq2⟩ : ∃ q, ofB d.pages.length r = q := ⟨_, rfl⟩
  rw [hq1] at HCK he2
  rw [hq2] at HOF he2
  have HE2 := Lib.hid he2
  have HD := Lib.hid hD
  have HR := Lib.hid hR
  have HGD := Lib.hid hgd
  have HGR := Lib.hid hgr
  clear hw hD hgd hR hgr he2 hq1 hq2
  have HB := Lib.hid (Below.refl w.heap.size w)
  go_enter Try.func40, Try.ntmps40
  go_upto_region 1 with (fail)
  cases q1
  · obtain rfl : e2 = 330 := by rw [← HE2.out]; rfl
    refine Agg.listR 9 (by kernel_rfl) ?_
    simp only [List.take_succ_cons, List.take_zero, List.drop_succ_cons, List.drop_zero]
    refine Agg.chRowB 4 HGR.out rfl (by decide +kernel) rfl rfl rfl rfl ?_
    refine Agg.chCall Try.func15 rfl (by kernel_rfl) rfl rfl rfl rfl (fun W hb => HCK.out W _ (RtR.keep HR.out hb)) ?_
    refine Agg.chNe true (by decide) rfl rfl rfl rfl rfl ?_
    refine Agg.chMove rfl rfl rfl rfl ?_
    refine Agg.chSkip rfl rfl ?_
    refine Agg.chSkip rfl rfl ?_
    refine Agg.chSkip rfl rfl ?_
    refine Agg.chSkip rfl rfl ?_
    refine Agg.chPick rfl rfl rfl rfl rfl ?_
    refine Agg.chEnd ?_
    intro vs w1 hb _
    show Exit.then _ _ Exit.normal _ _
    simp only [List.reverse, List.reverseAux, Agg.fill, List.set_cons_succ, List.set_cons_zero]
    replace HB := Lib.hid (HB.out.trans (hb.mono HB.out.size))
    replace HD := Lib.hid (HD.out.keep hb)
    replace HR := Lib.hid (HR.out.keep hb)
    replace HGD := Lib.hid (HGD.out.keep hb)
    replace HGR := Lib.hid (HGR.out.keep hb)
    clear hb
    go_wp2_with fail
    go_ret2
    exact ⟨rfl, HB.out⟩
  · have he : (if q2 = false then (330 : Int) else 0) = e2 := by rw [← HE2.out]; simp
    refine Agg.listR 9 (by kernel_rfl) ?_
    simp only [List.take_succ_cons, List.take_zero, List.drop_succ_cons, List.drop_zero]
    refine Agg.chRowB 4 HGR.out rfl (by decide +kernel) rfl rfl rfl rfl ?_
    refine Agg.chCall Try.func15 rfl (by kernel_rfl) rfl rfl rfl rfl (fun W hb => HCK.out W _ (RtR.keep HR.out hb)) ?_
    refine Agg.chNe false (by decide) rfl rfl rfl rfl rfl ?_
    refine Agg.chMove rfl rfl rfl rfl ?_
    refine Agg.chRowB 4 HGD.out rfl (by decide +kernel) rfl rfl rfl rfl ?_
    refine Agg.chRowB 4 HGR.out rfl (by decide +kernel) rfl rfl rfl rfl ?_
    refine Agg.chCall Try.func41 rfl (by kernel_rfl) rfl rfl rfl rfl (fun W hb => HOF.out W _ _ (HD.out.keep hb) (RtR.keep HR.out hb)) ?_
    refine Agg.chNot rfl rfl rfl rfl ?_
    refine Agg.chPick rfl rfl rfl rfl rfl ?_
    refine Agg.chEnd ?_
    intro vs w2 hb _
    show Exit.then _ _ Exit.normal _ _
    simp only [List.reverse, List.reverseAux, Agg.fill, List.set_cons_succ, List.set_cons_zero]
    replace HB := Lib.hid (HB.out.trans (hb.mono HB.out.size))
    replace HD := Lib.hid (HD.out.keep hb)
    replace HR := Lib.hid (HR.out.keep hb)
    replace HGD := Lib.hid (HGD.out.keep hb)
    replace HGR := Lib.hid (HGR.out.keep hb)
    clear hb
    cases q2
    · obtain rfl : e2 = 330 := by rw [← he]; rfl
      go_wp2_with fail
      go_ret2
      exact ⟨rfl, HB.out⟩
    · obtain rfl : e2 = 0 := by rw [← he]; rfl
      go_wp2_with fail
      go_ret2
      exact ⟨rfl, HB.out⟩
theorem devO_far {b : Nat} {w w' : World} {v : Value} {d : Dev} {g : Nat} {T : TypeId} {cs : List Value} (h : DevO b w v d) (H : Blk w g T cs) (h1 : 38 ≠ T) (h2 : 88 ≠ T) (hg : w.grownBy w' (some g)) : DevO b w' v d := by
  obtain ⟨p, c, hv, hp, hc⟩ := h
  exact ⟨p, c, hv, hp.kept hg (own_apart hp H h1), hc.kept hg (own_apart hc H h2)⟩
theorem dev0_o (base : Nat) (w : World) : DevO base w (.agg #[.slice none 0 0, .slice none 0 0, .int .i64 0, .bool false]) dev0 := ⟨.slice none 0 0, .slice none 0 0, rfl, World.ownsRow_nil _ _ _ _, World.ownsRow_nil _ _ _ _⟩
abbrev EqV (u : Value) (v : Value) (_ : World) : Prop := v = u
theorem EqV.stable (u : Value) : Stable (EqV u) := fun _ _ _ h _ => h
/-- what device.Put tells, as a value -/
def PutT (base : Nat) (e : Int) (d : Dev) (v : Value) (w : World) : Prop := ∃ u, v = .tuple #[u, .int .i64 e] ∧ DevO base w u d
theorem PutT.stable (base : Nat) (e : Int) (d : Dev) : Stable (PutT base e d) := fun _ _ _ ⟨u, h1, h2⟩ hb => ⟨u, h1, h2.keep hb⟩
def DevPV (base : Nat) (d : Dev) (v : Value) (w : World) : Prop := DevO base w v d
theorem DevPV.stable (base : Nat) (d : Dev) : Stable (DevPV base d) := fun _ _ _ (h : DevO _ _ _ _) hb => h.keep hb
theorem PutT.c0 {base : Nat} {e : Int} {d : Dev} (v : Value) (w : World) (h : PutT base e d v w) : ∃ vs u, v = .tuple vs ∧ vs[0]? = some u ∧ DevPV base d u w := by
  obtain ⟨u, rfl, h⟩ := h
  exact ⟨_, u, rfl, rfl, h⟩
theorem PutT.c1 {base : Nat} {e : Int} {d : Dev} (v : Value) (w : World) (h : PutT base e d v w) : ∃ vs u, v = .tuple vs ∧ vs[1]? = some u ∧ EqV (.int .i64 e) u w := by
  obtain ⟨u, rfl, h⟩ := h
  exact ⟨_, _, rfl, rfl, rfl⟩
theorem put_len (d : Dev) (k : Int) (b : List Sec) {n : Nat} (h : d.cache.length ≤ n) : (goesP d (putP d k b)).2.cache.length ≤ n + 1 := by
  have hb : (burnD d).cache = d.cache := rfl
  refine goesP_len (by omega) ?_
  unfold putP
  split
  · show d.cache.length ≤ _; omega
  · split
    · show (burnD d).cache.length ≤ _; rw [hb]; omega
    · show (d.cache ++ [(k, b)]).length ≤ _; rw [List.length_append, List.length_singleton]; omega
set_option maxHeartbeats 8000000 in
set_option maxRecDepth 100000 in
theorem rtPut_any (d : Dev) (r : Rt) (dv v : Value) (w : World) (hg : DGood d) (hc : d.cache.length ≤ 10000) (hd : DevR w dv d) (hv : RtR w v r) (hw : RtW r) (e3 : Int) (D3 : Dev) (hp : putRt d r = (e3, D3)) :
    Calls Try.prog 14 #[dv, v] w fun e w' => ∃ u, e = .returned (.tuple #[u, .int .i64 e3]) ∧ DevO w.heap.size w' u D3 ∧ Below w.heap.size w w' := by
  obtain ⟨px, pc, cx, cc, rfl⟩ := hd.shape
  obtain ⟨sl, rfl, hs⟩ := hv.ex
  obtain ⟨x, c, rfl, _, _⟩ := ints_shape hs
  unfold rtV at hv ⊢
  obtain ⟨z1, hz1⟩ : ∃ z : Int, (if rightB r = false ∨ ofB d.pages.length r = false then (330 : Int) else 0) = z := ⟨_, rfl⟩
  obtain ⟨z, hz⟩ : ∃ z : Int, (if whyD d ≠ 0 then whyD d else z1) = z := ⟨_, rfl⟩
  have HRY := Lib.hid (fun W caps hcl h => readyI_any d (.agg #[.slice px d.pages.length pc, .slice cx d.cache.length cc, .int .i64 d.fuse, .bool d.off]) 40 caps z1 W h hg (Agg.enters Try.func40 (by kernel_rfl) rfl) hcl z hz)
  have HPC := Lib.hid (fun gr gd W h1 h2 h3 h4 => rtPutC_any d r px cx x pc cc c gr gd W hw h1 h2 h3 h4 z1 hz1)
  have hwhy : whyD d = 260 ∨ whyD d = 10 ∨ whyD d = 0 := by
    unfold whyD; split
    · exact .inl rfl
    · split
      · exact .inr (.inl rfl)
      · exact .inr (.inr rfl)
  have hz12 : z1 = 330 ∨ z1 = 0 := by rw [← hz1]; split <;> simp
  have hcase : (z = 10 ∧ e3 = 10 ∧ D3 = d ∧ whyD d = 10) ∨ (z ≠ 10 ∧ z ≠ 0 ∧ e3 = z ∧ D3 = dev0) ∨ (z = 0 ∧ RightR r ∧ (e3, D3) = if (goesP d (putP d r.slot (blkR r))).1 ≠ 0 then goesP d (putP d r.slot (blkR r)) else goesP (goesP d (putP d r.slot (blkR r))).2 (flushP (goesP d (putP d r.slot (blkR r))).2)) := by
    unfold putRt at hp
    by_cases h10 : whyD d = 10
    · rw [if_pos h10] at hp
      injection hp with p1 p2
      exact .inl ⟨by rw [← hz, if_pos (by omega), h10], p1.symm, p2.symm, h10⟩
    · rw [if_neg h10] at hp
      by_cases h0 : whyD d ≠ 0
      · rw [if_pos h0] at hp
        injection hp with p1 p2
        rw [if_pos h0] at hz
        exact .inr (.inl ⟨by omega, by omega, by omega, p2.symm⟩)
      · rw [if_neg h0] at hp hz
        by_cases hq : rightB r = false ∨ ofB d.pages.length r = false
        · rw [if_pos hq] at hp hz1
          injection hp with p1 p2
          exact .inr (.inl ⟨by omega, by omega, by omega, p2.symm⟩)
        · rw [if_neg hq] at hp hz1
          refine .inr (.inr ⟨by omega, (right_iff r).1 (by simpa using fun h => hq (.inl h)), hp.symm⟩)
  have hflush10 : whyD d = 10 → goesP d (flushP d) = (10, d) := fun h => by
    unfold whyD at h
    split at h
    · cases h
    · rename_i hr
      split at h
      · rename_i ho
        exact goesP_off (by simpa using hr) ho
      · cases h
  have HF1 := Lib.hid (fun W u (h : DevR W u d) => flush_R (w := W) (v := u) hg (by omega) h)
  have HCS := Lib.hid hcase
  have HF10 := Lib.hid hflush10
  have HDG := Lib.hid hg
  have HD := Lib.hid hd
  have HV := Lib.hid hv
  clear hg hd hv hs hw hz1 hz hwhy hz12 hcase hflush10 hp
  have HB := Lib.hid (Below.refl w.heap.size w)
  go_enter Try.func14, Try.ntmps14
  go_upto_region 1 with (fail)
  refine Agg.wp_at fun w1 hw1 => ?_
  have hb : Below w.heap.size w w1 := by rw [hw1.out]; repeat (first | exact Below.refl _ _ | refine Agg.bel_drew ?_ | refine Agg.bel_alloc ?_ _)
  replace HB := Lib.hid (HB.out.trans (hb.mono HB.out.size))
  replace HD := Lib.hid (HD.out.keep hb)
  replace HV := Lib.hid (HV.out.keep hb)
  clear hb
  have H2 : Hid (Blk w1 w.heap.size 30 [.slice px d.pages.length pc, .slice cx d.cache.length cc, .int .i64 d.fuse, .bool d.off]) := by show Blk _ _ _ _; rw [hw1.out]; exact ((Blk.new w 30 #[.slice px d.pages.length pc, .slice cx d.cache.length cc, .int .i64 d.fuse, .bool d.off]).al _).al _
  have H3 : Hid (Blk w1 (w.heap.size + 1) 26 [.int .i64 r.slot, .int .u64 (r.stamp : Int), .slice x r.pages.length c, .int .i64 r.bytes]) := by show Blk _ _ _ _; rw [hw1.out]; exact (Blk.newAt (w.alloc _) 26 #[.int .i64 r.slot, .int .u64 (r.stamp : Int), .slice x r.pages.length c, .int .i64 r.bytes] _ (by simp)).al _
  have H4 : Hid (Blk w1 (w.heap.size + 1 + 1) 30 [.slice none 0 0, .slice none 0 0, .int .i64 0, .bool false]) := by show Blk _ _ _ _; rw [hw1.out]; exact Blk.newAt ((w.alloc _).alloc _) 30 #[.slice none 0 0, .slice none 0 0, .int .i64 0, .bool false] _ (by simp)
  clear hw1
  have h2 := H2.out
  have hmf : ∀ (fn : Fn) (first cap : Array Value) (w : World), (Instr.makeFunc fn first cap).run Try.prog w = .ok (.func fn first cap) w := fun _ _ _ _ => rfl
  go_wp2_with (refine Agg.gLoadB 4 h2 rfl rfl rfl rfl (by decide +kernel) ?_; simp only [Act.put, List.setIfInBounds_toArray, List.set_cons_succ, List.set_cons_zero])
  clear h2 hmf
  have hcl := fun (_ : rightD d = true) (_ : d.off = false) (W : World) (hb : Below w1.heap.size w1 W) => HPC.out (w.heap.size + 1) w.heap.size W (HD.out.keep hb) (H2.out.keep hb) (RtR.keep HV.out hb) (H3.out.keep hb)
  refine (HRY.out w1 #[.pointer (some ⟨w.heap.size + 1, 0, none⟩), .pointer (some ⟨w.heap.size, 0, none⟩)] hcl HD.out).mono ?_
  rintro e w2 ⟨rfl, hb⟩
  replace HB := Lib.hid (HB.out.trans (hb.mono HB.out.size))
  replace HD := Lib.hid (HD.out.keep hb)
  replace HV := Lib.hid (HV.out.keep hb)
  replace H2 := Lib.hid (H2.out.keep hb)
  replace H3 := Lib.hid (H3.out.keep hb)
  replace H4 := Lib.hid (H4.out.keep hb)
  clear hb
  clear hcl
  rcases HCS.out with ⟨rfl, rfl, rfl, hw10⟩ | ⟨hn10, hn0, rfl, rfl⟩ | ⟨rfl, hright, hee⟩
  · have hfl := HF10.out hw10
    have HF2 := HF1
    rw [hfl] at HF2
    clear hfl hw10
    have h2 := H2.out
    have hsz := HB.out.size
    go_wp2_with (refine Agg.gLoadB 4 h2 rfl rfl rfl rfl (by decide +kernel) ?_; simp only [Act.put, List.setIfInBounds_toArray, List.set_cons_succ, List.set_cons_zero])
    clear h2
    refine (HF2.out w2 _ HD.out).mono ?_
    rintro e w3 ⟨u, rfl, hu, hb⟩
    replace HB := Lib.hid (HB.out.trans (hb.mono HB.out.size))
    replace HD := Lib.hid (HD.out.keep hb)
    replace HV := Lib.hid (HV.out.keep hb)
    replace H2 := Lib.hid (H2.out.keep hb)
    replace H3 := Lib.hid (H3.out.keep hb)
    replace H4 := Lib.hid (H4.out.keep hb)
    clear hb
    have HU := Lib.hid (hu.base hsz)
    obtain ⟨px5, pc5, cx5, cc5, rfl⟩ := hu.read.shape
    clear hu
    have h4 := H4.out
    have hsz5 := HB.out.size
    go_wp2_with (first
      | (refine Agg.gStoreB 4 [.slice px5 D3.pages.length pc5, .slice cx5 D3.cache.length cc5, .int .i64 D3.fuse, .bool D3.off] h4 rfl rfl rfl rfl rfl (by decide +kernel) rfl rfl (by simp [Value.oneCell']) (fun w14 hb14 hg14 => ?_)))
    exact bodyPost_ret (results_row2 (m := 4) rfl hb14 rfl (by decide +kernel) rfl) rfl ⟨_, rfl, devO_far HU.out h4 (by decide) (by decide) hg14, HB.out.trans (grown_below hg14 hsz5 (fun j hj => by cases hj; omega))⟩
  · have q1 : (e3 == 10) = false := by simp [hn10]
    have q2 : (e3 != 0) = true := by simp [hn0]
    have h4 := H4.out
    have hsz := HB.out.size
    clear hn10 hn0
    go_wp2_with (first
      | (refine Agg.gStoreB 4 [.slice none 0 0, .slice none 0 0, .int .i64 0, .bool false] h4 rfl rfl rfl rfl rfl (by decide +kernel) rfl rfl (by simp [Value.oneCell']) (fun w14 hb14 hg14 => ?_)))
    exact bodyPost_ret (results_row2 (m := 4) rfl hb14 rfl (by decide +kernel) rfl) rfl ⟨_, rfl, dev0_o _ _, HB.out.trans (grown_below hg14 hsz (fun j hj => by cases hj; omega))⟩
  · obtain ⟨⟨e1, D1⟩, hx1⟩ : ∃ x, goesP d (putP d r.slot (blkR r)) = x := ⟨_, rfl⟩
    have hg1 := goesP_good HDG.out (putP_good HDG.out r.slot (blkR_bok hright))
    have hl1 := put_len d r.slot (blkR r) hc
    have HPU := Lib.hid (fun W u (h : DevR W u d) => put_R (w := W) (v := u) HDG.out (by omega) h r.slot (blkR_bok hright))
    rw [hx1] at hg1 hl1 hee HPU
    dsimp only at hg1 hl1 hee HPU
    have HBL := Lib.hid (fun W h => block_any r (.agg #[.int .i64 r.slot, .int .u64 (r.stamp : Int), .slice x r.pages.length c, .int .i64 r.bytes]) W h hright)
    have HF3 := Lib.hid (fun W u (h : DevR W u D1) => flush_R (w := W) (v := u) hg1 (by omega) h)
    have HEE := Lib.hid hee
    clear hx1 hee hright
    have hsz := HB.out.size
    go_upto_region 6 with (fail)
    refine Agg.chainR 9 (by kernel_rfl) (by kernel_rfl) ?_
    simp only [List.take_succ_cons, List.take_zero, List.drop_succ_cons, List.drop_zero]
    refine Agg.chRowB 4 H2.out rfl (by decide +kernel) rfl rfl rfl rfl ?_
    refine Agg.chFA (by first | exact fo_Dev_0 | exact fo_Rt_0) rfl rfl rfl rfl ?_
    refine Agg.chLoadB H3.out (by decide +kernel) rfl rfl (by rfl) rfl rfl ?_
    refine Agg.chRowB 4 H3.out rfl (by decide +kernel) rfl rfl rfl rfl ?_
    refine Agg.chCall Try.func42 rfl (by kernel_rfl) rfl rfl rfl rfl (fun W hb => HBL.out W (RtR.keep HV.out hb)) ?_
    refine Agg.chCallG Try.func33 rfl (by kernel_rfl) (PutT w2.heap.size e1 D1) (PutT.stable _ _ _) rfl rfl rfl rfl (fun W hb => Calls.mono (HPU.out W _ (HD.out.keep hb)) (fun e w2 h => by obtain ⟨u, rfl, h1, h2⟩ := h; exact ⟨_, rfl, ⟨u, rfl, h1.base hb.size⟩, h2⟩)) ?_
    refine Agg.chMoveO 5 (PutT.stable _ _ _) rfl rfl rfl rfl rfl rfl ?_
    refine Agg.chExtractO 6 (DevPV.stable _ _) PutT.c0 rfl rfl rfl rfl rfl rfl ?_
    refine Agg.chExtractO 6 (EqV.stable _) PutT.c1 rfl rfl rfl rfl rfl rfl ?_
    refine Agg.chEnd ?_
    intro vs w4 hb hf
    simp only [List.reverse, List.reverseAux, Agg.Facts] at hf
    obtain ⟨_, _, h7, hv8, _⟩ := hf
    simp only [List.reverse, List.reverseAux, Agg.fill, List.set_cons_succ, List.set_cons_zero, hv8]
    have h7' : DevO _ _ _ _ := h7
    obtain ⟨px5, pc5, cx5, cc5, hv7⟩ := h7'.read.shape
    rw [hv7] at h7'
    simp only [hv7]
    have h2 := H2.out.keep hb
    have h4 := H4.out.keep hb
    have hbA := HB.out.trans (hb.mono HB.out.size)
    refine Agg.tStore 4 (cs := [.slice px5 D1.pages.length pc5, .slice cx5 D1.cache.length cc5, .int .i64 D1.fuse, .bool D1.off]) h2 rfl rfl rfl rfl rfl (by decide +kernel) rfl rfl (by simp [Value.oneCell']) (fun w60 hb60 hg60 => ?_)
    refine Agg.tAssign rfl rfl rfl ?_
    simp only [Agg.ev, List.getD_cons_zero, List.getD_cons_succ, List.set_cons_succ, List.set_cons_zero]
    refine Agg.wpNil ?_
    have HDV := Lib.hid ((devO_far h7' h2 (by decide) (by decide) hg60).base hsz)
    have H26 := Lib.hid hb60
    have H46 := Lib.hid (h4.far' hg60 (by omega))
    have HB6 := Lib.hid (hbA.trans (grown_below hg60 hbA.size (fun j hj => by cases hj; exact Nat.le_refl _)))
    clear hb h7 h7' hv7 hv8 h2 h4 hbA hb60 hg60 HB H2 H3 H4 HD HV HPU HBL HRY HPC hsz
    have HB := HB6
    have hsz := HB.out.size
    have hee := HEE.out
    by_cases he1 : e1 = 0
    · subst he1
      rw [if_neg (by simp)] at hee
      rw [← hee] at HF3
      dsimp only at HF3
      have h26 := H26.out
      go_wp2_with (refine Agg.gLoadB 4 h26 rfl rfl rfl rfl (by decide +kernel) ?_; simp only [Act.put, List.setIfInBounds_toArray, List.set_cons_succ, List.set_cons_zero])
      clear h26
      refine (HF3.out w60 _ HDV.out.read).mono ?_
      rintro e w41 ⟨u, rfl, hu, hb⟩
      replace HB := Lib.hid (HB.out.trans (hb.mono HB.out.size))
      replace HDV := Lib.hid (HDV.out.keep hb)
      replace H26 := Lib.hid (H26.out.keep hb)
      replace H46 := Lib.hid (H46.out.keep hb)
      clear hb
      have HU := Lib.hid (hu.base hsz)
      obtain ⟨px6, pc6, cx6, cc6, rfl⟩ := hu.read.shape
      clear hu
      have h4 := H46.out
      have hsz5 := HB.out.size
      go_wp2_with (first
        | (refine Agg.gStoreB 4 [.slice px6 D3.pages.length pc6, .slice cx6 D3.cache.length cc6, .int .i64 D3.fuse, .bool D3.off] h4 rfl rfl rfl rfl rfl (by decide +kernel) rfl rfl (by simp [Value.oneCell']) (fun w14 hb14 hg14 => ?_)))
      exact bodyPost_ret (results_row2 (m := 4) rfl hb14 rfl (by decide +kernel) rfl) rfl ⟨_, rfl, devO_far HU.out h4 (by decide) (by decide) hg14, HB.out.trans (grown_below hg14 hsz5 (fun j hj => by cases hj; omega))⟩
    · rw [if_pos he1] at hee
      obtain ⟨rfl, rfl⟩ := Prod.mk.inj hee
      have q2 : (e3 != 0) = true := by simp [he1]
      have h26 := H26.out
      have h4 := H46.out
      clear he1 hee
      go_wp2_with (first
        | (refine Agg.gLoadB 4 h26 rfl rfl rfl rfl (by decide +kernel) ?_; simp only [Act.put, List.setIfInBounds_toArray, List.set_cons_succ, List.set_cons_zero])
        | (refine Agg.gStoreB 4 [.slice px5 D3.pages.length pc5, .slice cx5 D3.cache.length cc5, .int .i64 D3.fuse, .bool D3.off] h4 rfl rfl rfl rfl rfl (by decide +kernel) rfl rfl (by simp [Value.oneCell']) (fun w14 hb14 hg14 => ?_)))
      exact bodyPost_ret (results_row2 (m := 4) rfl hb14 rfl (by decide +kernel) rfl) rfl ⟨_, rfl, devO_far HDV.out h4 (by decide) (by decide) hg14, HB.out.trans (grown_below hg14 hsz (fun j hj => by cases hj; omega))⟩
end Go.Proofs.Ytjnnnnolikbjcaa
