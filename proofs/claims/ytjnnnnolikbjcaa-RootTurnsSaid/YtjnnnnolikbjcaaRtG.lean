/-
  ROOTS: Find, In.
-/
import Derived.Test.YtjnnnnolikbjcaaRtF
namespace Go.Proofs.Ytjnnnnolikbjcaa
open Go.ChangeShapes Go.WideShapes Go.ChangeAt Go.RowKit Agg Pg Dv
attribute [local go_sem] Oper.semAt_some

set_option maxHeartbeats 4000000 in
set_option maxRecDepth 100000 in
theorem find_any (d : Dev) (dv : Value) (w : World) (hg : DGood d) (hc : d.cache.length ≤ 1000000) (hd : DevR w dv d) (r3 : Rt) (e3 : Int)
    (hr3 : (if whyD d ≠ 0 then rt0 else (findR d).getD rt0) = r3) (he3 : (if whyD d ≠ 0 then whyD d else if (findR d).isSome then (0 : Int) else 331) = e3) :
    Calls Try.prog 12 #[dv] w fun e w' => ∃ v, e = .returned (.tuple #[v, .int .i64 e3]) ∧ RtO w.heap.size w' v r3 ∧ Below w.heap.size w w' := by
  obtain ⟨px, pc, cx, cc, rfl⟩ := hd.shape
  have HRY := Lib.hid (fun W caps hcl h => readyR_any d (.agg #[.slice px d.pages.length pc, .slice cx d.cache.length cc, .int .i64 d.fuse, .bool d.off]) 37 caps ((findR d).getD rt0) (if (findR d).isSome then (0 : Int) else 331) W h hg (Agg.enters Try.func37 (by kernel_rfl) rfl) hcl r3 e3 hr3 he3)
  have HFC := Lib.hid (fun h1 h2 g W hD hB => findC_any d px cx pc cc g W hg hc h1 h2 hD hB (findR d) rfl _ rfl)
  have HD := Lib.hid hd
  clear hd hr3 he3
  have HB := Lib.hid (Below.refl w.heap.size w)
  go_enter Try.func12, Try.ntmps12
  go_upto_region 1 with (fail)
  refine Agg.wp_at fun w1 hw1 => ?_
  have hb : Below w.heap.size w w1 := by rw [hw1.out]; repeat (first | exact Below.refl _ _ | refine Agg.bel_drew ?_ | refine Agg.bel_alloc ?_ _)
  replace HB := Lib.hid (HB.out.trans (hb.mono HB.out.size))
  replace HD := Lib.hid (HD.out.keep hb)
  clear hb
  have H1 : Hid (Blk w1 w.heap.size 30 [.slice px d.pages.length pc, .slice cx d.cache.length cc, .int .i64 d.fuse, .bool d.off]) := by show Blk _ _ _ _; rw [hw1.out]; exact (Blk.new w 30 #[.slice px d.pages.length pc, .slice cx d.cache.length cc, .int .i64 d.fuse, .bool d.off]).al _
  have H2 : Hid (Blk w1 (w.heap.size + 1) 26 [.int .i64 0, .int .u64 0, .slice none 0 0, .int .i64 0]) := by show Blk _ _ _ _; rw [hw1.out]; exact Blk.newAt (w.alloc _) 26 #[.int .i64 0, .int .u64 0, .slice none 0 0, .int .i64 0] _ (by simp)
  clear hw1
  have h1 := H1.out
  have hmf : ∀ (fn : Fn) (first cap : Array Value) (w : World), (Instr.makeFunc fn first cap).run Try.prog w = .ok (.func fn first cap) w := fun _ _ _ _ => rfl
  go_wp2_with (refine Agg.gLoadB 4 h1 rfl rfl rfl rfl (by decide +kernel) ?_; simp only [Act.put, List.setIfInBounds_toArray, List.set_cons_succ, List.set_cons_zero])
  clear h1 hmf
  have hsz := HB.out.size
  have hcl := fun h1 h2 (W : World) (hb : Below w1.heap.size w1 W) => HFC.out h1 h2 w.heap.size W (HD.out.keep hb) (H1.out.keep hb)
  refine (HRY.out w1 #[.pointer (some ⟨w.heap.size, 0, none⟩)] hcl HD.out).mono ?_
  rintro e w2 ⟨v, rfl, hv, hb⟩
  replace HB := Lib.hid (HB.out.trans (hb.mono HB.out.size))
  replace HD := Lib.hid (HD.out.keep hb)
  replace H1 := Lib.hid (H1.out.keep hb)
  replace H2 := Lib.hid (H2.out.keep hb)
  clear hb
  clear hcl
  have HV := Lib.hid (hv.base hsz)
  obtain ⟨sl, hvv, hvo⟩ := hv
  unfold rtV at hvv
  subst hvv
  obtain ⟨x2, c2, rfl, _, _⟩ := (ownSl hvo).shape
  have h2 := H2.out
  have hsz9 := HB.out.size
  clear hvo
  go_wp2_with (first
    | (refine Agg.gStoreB 4 [.int .i64 r3.slot, .int .u64 (r3.stamp : Int), .slice x2 r3.pages.length c2, .int .i64 r3.bytes] h2 rfl rfl rfl rfl rfl (by decide +kernel) rfl rfl (by simp [Value.oneCell']) (fun w14 hb14 hg14 => ?_)))
  exact bodyPost_ret (results_row2 (m := 4) rfl hb14 rfl (by decide +kernel) rfl) rfl ⟨_, rfl, RtO.far HV.out h2 (by decide) hg14, HB.out.trans (grown_below hg14 hsz9 (fun j hj => by cases hj; omega))⟩

/-- what stands in a slot, whatever slot -/
noncomputable def inS (d : Dev) (slot : Int) : Rt × Int := if slot = 0 ∨ slot = 1 then ((inR d slot).getD rt0, if (inR d slot).isSome then 0 else 331) else (rt0, 2)
set_option maxHeartbeats 4000000 in
set_option maxRecDepth 100000 in
theorem inC_any (d : Dev) (slot : Int) (px cx : Option Addr) (pc cc gs g0 : Nat) (w : World) (hg : DGood d) (hc : d.cache.length ≤ 1000000) (hr : rightD d = true) (ho : d.off = false) (hs1 : -9223372036854775808 ≤ slot) (hs2 : slot ≤ 9223372036854775807)
    (hD : DevR w (.agg #[.slice px d.pages.length pc, .slice cx d.cache.length cc, .int .i64 d.fuse, .bool d.off]) d) (hg0 : Blk w g0 30 [.slice px d.pages.length pc, .slice cx d.cache.length cc, .int .i64 d.fuse, .bool d.off]) (hgs : Blk w gs 3 [.int .i64 slot])
    (r3 : Rt) (e3 : Int) (hR : inS d slot = (r3, e3)) :
    Calls Try.prog 49 #[.pointer (some ⟨gs, 0, none⟩), .pointer (some ⟨g0, 0, none⟩)] w fun e w' => ∃ v, e = .returned (.tuple #[v, .int .i64 e3]) ∧ RtO w.heap.size w' v r3 ∧ Below w.heap.size w w' := by
  have HIN := Lib.hid (fun W v h (h2 : slot = 0 ∨ slot = 1) => in_any d slot v W hg hc h hr ho h2 _ rfl _ rfl)
  have HRR := Lib.hid hR
  have HD := Lib.hid hD
  have HG0 := Lib.hid hg0
  have HGS := Lib.hid hgs
  clear hg hr ho hD hg0 hgs hR
  have HB := Lib.hid (Below.refl w.heap.size w)
  go_enter Try.func49, Try.ntmps49
  go_upto_region 1 with (fail)
  refine Agg.wp_at fun w1 hw1 => ?_
  have hb : Below w.heap.size w w1 := by rw [hw1.out]; repeat (first | exact Below.refl _ _ | refine Agg.bel_drew ?_ | refine Agg.bel_alloc ?_ _)
  replace HB := Lib.hid (HB.out.trans (hb.mono HB.out.size))
  replace HD := Lib.hid (HD.out.keep hb)
  replace HG0 := Lib.hid (HG0.out.keep hb)
  replace HGS := Lib.hid (HGS.out.keep hb)
  clear hb
  have H2 : Hid (Blk w1 w.heap.size 26 [.int .i64 0, .int .u64 0, .slice none 0 0, .int .i64 0]) := by show Blk _ _ _ _; rw [hw1.out]; exact Blk.new w 26 #[.int .i64 0, .int .u64 0, .slice none 0 0, .int .i64 0]
  clear hw1
  have cs := HGS.out.cell 0
  simp only [List.getElem?_cons_zero] at cs
  have hsz := HB.out.size
  by_cases hin : slot = 0 ∨ slot = 1
  · have h1 : decide (slot < 0) = false := by simp; omega
    have h2 : decide (slot > 1) = false := by simp; omega
    have hRR := HRR.out
    unfold inS at hRR
    rw [if_pos hin] at hRR
    obtain ⟨hr3, he3⟩ := Prod.mk.inj hRR
    have HI2 := Lib.hid (fun W v h => HIN.out W v h hin)
    rw [hr3, he3] at HI2
    have hg0 := HG0.out
    clear hr3 he3 hRR HIN
    go_upto_region 3 with (fail)
    go_wp2_with (refine Agg.gLoadB 4 hg0 rfl rfl rfl rfl (by decide +kernel) ?_; simp only [Act.put, List.setIfInBounds_toArray, List.set_cons_succ, List.set_cons_zero])
    clear hg0 cs
    refine (HI2.out w1 _ HD.out).mono ?_
    rintro e w2 ⟨v, rfl, hv, hb⟩
    replace HB := Lib.hid (HB.out.trans (hb.mono HB.out.size))
    replace HD := Lib.hid (HD.out.keep hb)
    replace HG0 := Lib.hid (HG0.out.keep hb)
    replace HGS := Lib.hid (HGS.out.keep hb)
    replace H2 := Lib.hid (H2.out.keep hb)
    clear hb
    have HV := Lib.hid (hv.base hsz)
    obtain ⟨sl, hvv, hvo⟩ := hv
    unfold rtV at hvv
    subst hvv
    obtain ⟨x2, c2, rfl, _, _⟩ := (ownSl hvo).shape
    have h2' := H2.out
    have hsz9 := HB.out.size
    clear hvo HI2
    go_wp2_with (first
      | (refine Agg.gStoreB 4 [.int .i64 r3.slot, .int .u64 (r3.stamp : Int), .slice x2 r3.pages.length c2, .int .i64 r3.bytes] h2' rfl rfl rfl rfl rfl (by decide +kernel) rfl rfl (by simp [Value.oneCell']) (fun w14 hb14 hg14 => ?_)))
    exact bodyPost_ret (results_row2 (m := 4) rfl hb14 rfl (by decide +kernel) rfl) rfl ⟨_, rfl, RtO.far HV.out h2' (by decide) hg14, HB.out.trans (grown_below hg14 hsz9 (fun j hj => by cases hj; omega))⟩
  · have hRR := HRR.out
    unfold inS at hRR
    rw [if_neg hin] at hRR
    obtain ⟨rfl, rfl⟩ := Prod.mk.inj hRR
    have h2 := H2.out
    by_cases k1 : slot < 0
    · go_wp2_with (first
        | (refine Agg.gStoreB 4 [.int .i64 0, .int .u64 0, .slice none 0 0, .int .i64 0] h2 rfl rfl rfl rfl rfl (by decide +kernel) rfl rfl (by simp [Value.oneCell']) (fun w14 hb14 hg14 => ?_)))
      exact bodyPost_ret (results_row2 (m := 4) rfl hb14 rfl (by decide +kernel) rfl) rfl ⟨_, rfl, rt0_o _ _, HB.out.trans (grown_below hg14 hsz (fun j hj => by cases hj; omega))⟩
    · have k2 : slot > 1 := by omega
      go_wp2_with (first
        | (refine Agg.gStoreB 4 [.int .i64 0, .int .u64 0, .slice none 0 0, .int .i64 0] h2 rfl rfl rfl rfl rfl (by decide +kernel) rfl rfl (by simp [Value.oneCell']) (fun w14 hb14 hg14 => ?_)))
      exact bodyPost_ret (results_row2 (m := 4) rfl hb14 rfl (by decide +kernel) rfl) rfl ⟨_, rfl, rt0_o _ _, HB.out.trans (grown_below hg14 hsz (fun j hj => by cases hj; omega))⟩
set_option maxHeartbeats 4000000 in
set_option maxRecDepth 100000 in
theorem inX_any (d : Dev) (slot : Int) (dv : Value) (w : World) (hg : DGood d) (hc : d.cache.length ≤ 1000000) (hd : DevR w dv d) (hs1 : -9223372036854775808 ≤ slot) (hs2 : slot ≤ 9223372036854775807) (r3 : Rt) (e3 : Int)
    (hr3 : (if whyD d ≠ 0 then rt0 else (inS d slot).1) = r3) (he3 : (if whyD d ≠ 0 then whyD d else (inS d slot).2) = e3) :
    Calls Try.prog 20 #[dv, .int .i64 slot] w fun e w' => ∃ v, e = .returned (.tuple #[v, .int .i64 e3]) ∧ RtO w.heap.size w' v r3 ∧ Below w.heap.size w w' := by
  obtain ⟨px, pc, cx, cc, rfl⟩ := hd.shape
  have HRY := Lib.hid (fun W caps hcl h => readyR_any d (.agg #[.slice px d.pages.length pc, .slice cx d.cache.length cc, .int .i64 d.fuse, .bool d.off]) 49 caps (inS d slot).1 (inS d slot).2 W h hg (Agg.enters Try.func49 (by kernel_rfl) rfl) hcl r3 e3 hr3 he3)
  have HFC := Lib.hid (fun h1 h2 gs g W hD hB hS => inC_any d slot px cx pc cc gs g W hg hc h1 h2 hs1 hs2 hD hB hS (inS d slot).1 (inS d slot).2 rfl)
  have HD := Lib.hid hd
  clear hd hr3 he3
  have HB := Lib.hid (Below.refl w.heap.size w)
  go_enter Try.func20, Try.ntmps20
  go_upto_region 1 with (fail)
  refine Agg.wp_at fun w1 hw1 => ?_
  have hb : Below w.heap.size w w1 := by rw [hw1.out]; repeat (first | exact Below.refl _ _ | refine Agg.bel_drew ?_ | refine Agg.bel_alloc ?_ _)
  replace HB := Lib.hid (HB.out.trans (hb.mono HB.out.size))
  replace HD := Lib.hid (HD.out.keep hb)
  clear hb
  have H1 : Hid (Blk w1 w.heap.size 30 [.slice px d.pages.length pc, .slice cx d.cache.length cc, .int .i64 d.fuse, .bool d.off]) := by show Blk _ _ _ _; rw [hw1.out]; exact ((Blk.new w 30 #[.slice px d.pages.length pc, .slice cx d.cache.length cc, .int .i64 d.fuse, .bool d.off]).al _).al _
  have HS : Hid (Blk w1 (w.heap.size + 1) 3 [.int .i64 slot]) := by show Blk _ _ _ _; rw [hw1.out]; exact (Blk.newAt (w.alloc _) 3 #[.int .i64 slot] _ (by simp)).al _
  have H2 : Hid (Blk w1 (w.heap.size + 1 + 1) 26 [.int .i64 0, .int .u64 0, .slice none 0 0, .int .i64 0]) := by show Blk _ _ _ _; rw [hw1.out]; exact Blk.newAt ((w.alloc _).alloc _) 26 #[.int .i64 0, .int .u64 0, .slice none 0 0, .int .i64 0] _ (by simp)
  clear hw1
  have h1 := H1.out
  have hmf : ∀ (fn : Fn) (first cap : Array Value) (w : World), (Instr.makeFunc fn first cap).run Try.prog w = .ok (.func fn first cap) w := fun _ _ _ _ => rfl
  go_wp2_with (refine Agg.gLoadB 4 h1 rfl rfl rfl rfl (by decide +kernel) ?_; simp only [Act.put, List.setIfInBounds_toArray, List.set_cons_succ, List.set_cons_zero])
  clear h1 hmf
  have hsz := HB.out.size
  have hcl := fun h1 h2 (W : World) (hb : Below w1.heap.size w1 W) => HFC.out h1 h2 (w.heap.size + 1) w.heap.size W (HD.out.keep hb) (H1.out.keep hb) (HS.out.keep hb)
  refine (HRY.out w1 #[.pointer (some ⟨w.heap.size + 1, 0, none⟩), .pointer (some ⟨w.heap.size, 0, none⟩)] hcl HD.out).mono ?_
  rintro e w2 ⟨v, rfl, hv, hb⟩
  replace HB := Lib.hid (HB.out.trans (hb.mono HB.out.size))
  replace HD := Lib.hid (HD.out.keep hb)
  replace H1 := Lib.hid (H1.out.keep hb)
  replace H2 := Lib.hid (H2.out.keep hb)
  replace HS := Lib.hid (HS.out.keep hb)
  clear hb
  clear hcl
  have HV := Lib.hid (hv.base hsz)
  obtain ⟨sl, hvv, hvo⟩ := hv
  unfold rtV at hvv
  subst hvv
  obtain ⟨x2, c2, rfl, _, _⟩ := (ownSl hvo).shape
  have h2 := H2.out
  have hsz9 := HB.out.size
  clear hvo
  go_wp2_with (first
    | (refine Agg.gStoreB 4 [.int .i64 r3.slot, .int .u64 (r3.stamp : Int), .slice x2 r3.pages.length c2, .int .i64 r3.bytes] h2 rfl rfl rfl rfl rfl (by decide +kernel) rfl rfl (by simp [Value.oneCell']) (fun w14 hb14 hg14 => ?_)))
  exact bodyPost_ret (results_row2 (m := 4) rfl hb14 rfl (by decide +kernel) rfl) rfl ⟨_, rfl, RtO.far HV.out h2 (by decide) hg14, HB.out.trans (grown_below hg14 hsz9 (fun j hj => by cases hj; omega))⟩
end Go.Proofs.Ytjnnnnolikbjcaa
