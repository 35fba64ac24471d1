/-
  FILES: what is asked of a device on which a file may be laid.
-/
import Derived.Test.YtgfmpkcgkjpgnaaFiE
import Derived.Test.YtgfmpkcgkjpgnaaFiF
section
namespace Go.Proofs.Ytgfmpkcgkjpgnaa
open Go.ChangeShapes Go.WideShapes Go.ChangeAt Go.RowKit Agg Pg Dv Fi
attribute [local go_sem] Oper.semAt_some

def askP (d : Dev) (may : Bool) (r : Int × Dev) : Int × Dev := if rightD d = false then (260, dev0) else if d.off then (10, dev0) else if may = false then (2, dev0) else r
noncomputable def askY (d : Dev) (may : Bool) (r : List UInt8 × Int) : List UInt8 × Int := if rightD d = false then ([], 260) else if d.off then ([], 10) else if may = false then ([], 2) else r
theorem laid_cells {w : World} {kl : Nat} {px cx ax : Option Addr} {np pc nc cc na ac : Nat} {z : Int} {q : Bool} {kind : Int} (h : Blk w kl 92 (LaidV px cx ax np pc nc cc na ac z q kind)) : ∀ i v, [Value.slice px np pc, .slice cx nc cc, .int .i64 z, .bool q][i]? = some v → w.cell? ⟨kl, 0 + 0 + i, none⟩ = some v := by
  intro i v hi
  have h4 : i < 4 := (List.getElem?_eq_some_iff.1 hi).1
  rw [h.cell, show 0 + 0 + i = i by omega, ← hi]
  match i, h4 with
  | 0, _ => rfl
  | 1, _ => rfl
  | 2, _ => rfl
  | 3, _ => rfl
set_option maxHeartbeats 4000000 in
set_option maxRecDepth 100000 in
theorem askedD_any (d : Dev) (A : List Int) (kind bytes : Int) (fn : FuncId) (caps : Array Value) (ef : ∀ args w, (callFunc fn args).run Try.prog w = .ok (.enter fn args) w) (r : Int × Dev) (ax : Option Addr) (ac kl : Nat) (w : World) (hd : DGood d) (hk : LaidR w kl d ax A.length ac kind) (hA : Ints w (.slice ax A.length ac) A) (hb1 : -9223372036854775808 ≤ bytes) (hb2 : bytes ≤ 9223372036854775807)
    (hr : DOk r.2) (hdoes : rightD d = true → d.off = false → mayB A kind bytes d.pages.length = true → ∀ W, Below w.heap.size w W → Calls Try.prog fn caps W fun e W' => ∃ v, e = .returned (.tuple #[v, .int .i64 r.1]) ∧ DevR W' v r.2 ∧ W.grownBy W' (some kl)) :
    Calls Try.prog 45 #[.pointer (some ⟨kl, 0, none⟩), .int .i64 bytes, .func (.func fn) #[] caps] w fun e w' => ∃ v, e = .returned (.tuple #[v, .int .i64 (askP d (mayB A kind bytes d.pages.length) r).1]) ∧ DevR w' v (askP d (mayB A kind bytes d.pages.length) r).2 ∧ w.grownBy w' (some kl) := by
  obtain ⟨px, cx, pc, cc, hk1, hk2, hk3⟩ := hk
  have HK := Lib.hid hk1
  have hkw := hk1.lt
  have HD : Hid (DevR w (.agg #[.slice px d.pages.length pc, .slice cx d.cache.length cc, .int .i64 d.fuse, .bool d.off]) d) := Lib.hid ⟨px, cx, pc, cc, rfl, hk2, hk3⟩
  have HA := Lib.hid hA
  have HDG := Lib.hid hd
  have HOK := Lib.hid hr
  obtain ⟨rd, hrd⟩ : ∃ b, rightD d = b := ⟨_, rfl⟩
  obtain ⟨mb, hmb⟩ : ∃ b, mayB A kind bytes d.pages.length = b := ⟨_, rfl⟩
  rw [hrd, hmb] at hdoes
  rw [hmb]
  have HRD := Lib.hid hrd
  have HMB := Lib.hid hmb
  have HDO := Lib.hid hdoes
  obtain ⟨g, hg⟩ : ∃ g, askP d mb r = g := ⟨_, rfl⟩
  rw [hg]
  rw [askP, hrd] at hg
  have HG := Lib.hid hg
  have hce := fun W (hW : DevR W (.agg #[.slice px d.pages.length pc, .slice cx d.cache.length cc, .int .i64 d.fuse, .bool d.off]) d) => check_R hd hW
  rw [hrd] at hce
  have HCE := Lib.hid hce
  clear hd hk1 hk2 hk3 hA hr hdoes hrd hmb hg hce
  have HB := Lib.hid (Below.refl w.heap.size w)
  go_enter Try.func45, Try.ntmps45
  go_upto_region 2 with (fail)
  refine Agg.wp_at fun w1 hw1 => ?_
  have hb : Below w.heap.size w w1 := by rw [hw1.out]; repeat (first | exact Below.refl _ _ | refine Agg.bel_drew ?_ | refine Agg.bel_alloc ?_ _)
  replace HB := Lib.hid (HB.out.trans (hb.mono HB.out.size))
  replace HK := Lib.hid (HK.out.keep hb)
  replace HD := Lib.hid (HD.out.keep hb)
  replace HA := Lib.hid (HA.out.keep hb)
  clear hb
  have H1 : Hid (Blk w1 w.heap.size 46 [.slice none 0 0, .slice none 0 0, .int .i64 0, .bool false]) := by show Blk _ _ _ _; rw [hw1.out]; exact (Blk.new w 46 #[.slice none 0 0, .slice none 0 0, .int .i64 0, .bool false]).al _
  have H2 : Hid (Blk w1 (w.heap.size + 1) 46 [.slice none 0 0, .slice none 0 0, .int .i64 0, .bool false]) := by show Blk _ _ _ _; rw [hw1.out]; exact Blk.newAt (w.alloc _) 46 #[.slice none 0 0, .slice none 0 0, .int .i64 0, .bool false] _ (by simp)
  clear hw1
  have hc4 := laid_cells HK.out
  go_wp2_with (refine Agg.gLoad 4 [.slice px d.pages.length pc, .slice cx d.cache.length cc, .int .i64 d.fuse, .bool d.off] rfl rfl rfl (by decide +kernel) rfl hc4 ?_; simp only [Act.put, List.setIfInBounds_toArray, List.set_cons_succ, List.set_cons_zero])
  clear hc4
  refine (HCE.out w1 HD.out).mono ?_
  rintro e w2 ⟨rfl, hb⟩
  replace HB := Lib.hid (HB.out.trans (hb.mono HB.out.size))
  replace HK := Lib.hid (HK.out.keep hb)
  replace HD := Lib.hid (HD.out.keep hb)
  replace HA := Lib.hid (HA.out.keep hb)
  replace H1 := Lib.hid (H1.out.keep hb)
  replace H2 := Lib.hid (H2.out.keep hb)
  clear hb
  cases rd
  · have hg := HG.out
    rw [if_pos rfl] at hg
    subst hg
    have h1 := H1.out
    have h2 := H2.out
    simp only [Bool.false_eq_true, if_false]
    go_wp2_with (first
      | (refine Agg.gLoadB 4 h2 rfl rfl rfl rfl (by decide +kernel) ?_; simp only [Act.put, List.setIfInBounds_toArray, List.set_cons_succ, List.set_cons_zero])
      | (refine Agg.gStoreB 4 [.slice none 0 0, .slice none 0 0, .int .i64 0, .bool false] h1 rfl rfl rfl rfl rfl (by decide +kernel) rfl rfl (by simp [Value.oneCell']) (fun w14 hb14 hg14 => ?_)))
    refine bodyPost_ret (results_row2 (m := 4) rfl hb14 rfl (by decide +kernel) rfl) rfl ⟨_, rfl, devR_zero _, ?_⟩
    exact below_grown (HB.out.trans (grown_below hg14 HB.out.size (fun j hj => (by cases hj; omega)))) _
  · have hg := HG.out
    rw [if_neg (by simp)] at hg
    simp only [if_true]
    clear HG
    have k3 := HK.out.cell 3
    simp only [List.getElem?_cons_zero, List.getElem?_cons_succ] at k3
    obtain ⟨of, hof⟩ : ∃ b, d.off = b := ⟨_, rfl⟩
    have HOF := Lib.hid hof
    rw [hof] at hg k3
    clear hof
    cases of
    · rw [if_neg (by simp)] at hg
      go_wp2_with fail
      clear k3
      refine (may_any A px cx ax d.pages.length pc d.cache.length cc ac d.fuse d.off kind bytes kl w2 HK.out HA.out hb1 hb2 mb HMB.out).mono ?_
      rintro e w3 ⟨rfl, hb⟩
      replace HB := Lib.hid (HB.out.trans (hb.mono HB.out.size))
      replace HK := Lib.hid (HK.out.keep hb)
      replace HD := Lib.hid (HD.out.keep hb)
      replace HA := Lib.hid (HA.out.keep hb)
      replace H1 := Lib.hid (H1.out.keep hb)
      replace H2 := Lib.hid (H2.out.keep hb)
      clear hb
      cases mb
      · rw [if_pos rfl] at hg
        subst hg
        have h1 := H1.out
        have h2 := H2.out
        go_wp2_with (first
          | (refine Agg.gLoadB 4 h2 rfl rfl rfl rfl (by decide +kernel) ?_; simp only [Act.put, List.setIfInBounds_toArray, List.set_cons_succ, List.set_cons_zero])
          | (refine Agg.gStoreB 4 [.slice none 0 0, .slice none 0 0, .int .i64 0, .bool false] h1 rfl rfl rfl rfl rfl (by decide +kernel) rfl rfl (by simp [Value.oneCell']) (fun w14 hb14 hg14 => ?_)))
        refine bodyPost_ret (results_row2 (m := 4) rfl hb14 rfl (by decide +kernel) rfl) rfl ⟨_, rfl, devR_zero _, ?_⟩
        exact below_grown (HB.out.trans (grown_below hg14 HB.out.size (fun j hj => (by cases hj; omega)))) _
      · rw [if_neg (by simp)] at hg
        subst hg
        go_wp2_with fail
        refine (HDO.out (by first | rfl | trivial) HOF.out (by first | rfl | trivial) w3 HB.out).mono ?_
        rintro e w9 ⟨v, rfl, hdv, hgr⟩
        have h1 := H1.out.far' hgr (by omega)
        obtain ⟨px9, pc9, cx9, cc9, rfl⟩ := hdv.shape
        have hdv2 := hdv
        go_wp2_with (refine Agg.gStoreB 4 [.slice px9 r.2.pages.length pc9, .slice cx9 r.2.cache.length cc9, .int .i64 r.2.fuse, .bool r.2.off] h1 rfl rfl rfl rfl rfl (by decide +kernel) rfl rfl (by simp [Value.oneCell']) (fun w14 hb14 hg14 => ?_))
        refine bodyPost_ret (results_row2 (m := 4) rfl hb14 rfl (by decide +kernel) rfl) rfl ⟨_, rfl, hdv2.far HOK.out h1 hg14, ?_⟩
        exact ⟨hg14.os.trans (hgr.os.trans HB.out.os), hg14.tape.trans (hgr.tape.trans HB.out.tape), hg14.output.trans (hgr.output.trans HB.out.output), Nat.le_trans HB.out.size (Nat.le_trans hgr.size hg14.size), fun k hk hne => (hg14.block k (Nat.lt_of_lt_of_le hk (Nat.le_trans HB.out.size hgr.size)) (by simp; omega)).trans ((hgr.block k (Nat.lt_of_lt_of_le hk HB.out.size) hne).trans (HB.out.block k hk))⟩
    · rw [if_pos rfl] at hg
      subst hg
      have h1 := H1.out
      have h2 := H2.out
      go_wp2_with (first
        | (refine Agg.gLoadB 4 h2 rfl rfl rfl rfl (by decide +kernel) ?_; simp only [Act.put, List.setIfInBounds_toArray, List.set_cons_succ, List.set_cons_zero])
        | (refine Agg.gStoreB 4 [.slice none 0 0, .slice none 0 0, .int .i64 0, .bool false] h1 rfl rfl rfl rfl rfl (by decide +kernel) rfl rfl (by simp [Value.oneCell']) (fun w14 hb14 hg14 => ?_)))
      refine bodyPost_ret (results_row2 (m := 4) rfl hb14 rfl (by decide +kernel) rfl) rfl ⟨_, rfl, devR_zero _, ?_⟩
      exact below_grown (HB.out.trans (grown_below hg14 HB.out.size (fun j hj => (by cases hj; omega)))) _
end Go.Proofs.Ytgfmpkcgkjpgnaa
end
section
/-
  FILES: Get.
-/
namespace Go.Proofs.Ytgfmpkcgkjpgnaa
open Go.ChangeShapes Go.WideShapes Go.ChangeAt Go.RowKit Agg Pg Dv Fi
attribute [local go_sem] Oper.semAt_some

set_option maxHeartbeats 4000000 in
set_option maxRecDepth 100000 in
theorem askedY_any (d : Dev) (A : List Int) (kind bytes : Int) (fn : FuncId) (caps : Array Value) (ef : ∀ args w, (callFunc fn args).run Try.prog w = .ok (.enter fn args) w) (r : List UInt8 × Int) (ax : Option Addr) (ac kl : Nat) (w : World) (hd : DGood d) (hk : LaidR w kl d ax A.length ac kind) (hA : Ints w (.slice ax A.length ac) A) (hb1 : -9223372036854775808 ≤ bytes) (hb2 : bytes ≤ 9223372036854775807)
    (hdoes : rightD d = true → d.off = false → mayB A kind bytes d.pages.length = true → ∀ W, Below w.heap.size w W → Calls Try.prog fn caps W fun e W' => ∃ u, e = .returned (.tuple #[u, .int .i64 r.2]) ∧ W'.ownsRow W.heap.size 5 1 u r.1.length (bv r.1) ∧ Below W.heap.size W W') :
    Calls Try.prog 50 #[.pointer (some ⟨kl, 0, none⟩), .int .i64 bytes, .func (.func fn) #[] caps] w fun e w' => ∃ u, e = .returned (.tuple #[u, .int .i64 (askY d (mayB A kind bytes d.pages.length) r).2]) ∧ w'.ownsRow w.heap.size 5 1 u (askY d (mayB A kind bytes d.pages.length) r).1.length (bv (askY d (mayB A kind bytes d.pages.length) r).1) ∧ Below w.heap.size w w' := by
  obtain ⟨px, cx, pc, cc, hk1, hk2, hk3⟩ := hk
  have HK := Lib.hid hk1
  have hkw := hk1.lt
  have HD : Hid (DevR w (.agg #[.slice px d.pages.length pc, .slice cx d.cache.length cc, .int .i64 d.fuse, .bool d.off]) d) := Lib.hid ⟨px, cx, pc, cc, rfl, hk2, hk3⟩
  have HA := Lib.hid hA
  have HDG := Lib.hid hd
  obtain ⟨rd, hrd⟩ : ∃ b, rightD d = b := ⟨_, rfl⟩
  obtain ⟨mb, hmb⟩ : ∃ b, mayB A kind bytes d.pages.length = b := ⟨_, rfl⟩
  rw [hrd, hmb] at hdoes
  rw [hmb]
  have HRD := Lib.hid hrd
  have HMB := Lib.hid hmb
  have HDO := Lib.hid hdoes
  obtain ⟨g, hg⟩ : ∃ g, askY d mb r = g := ⟨_, rfl⟩
  rw [hg]
  rw [askY, hrd] at hg
  have HG := Lib.hid hg
  have hce := fun W (hW : DevR W (.agg #[.slice px d.pages.length pc, .slice cx d.cache.length cc, .int .i64 d.fuse, .bool d.off]) d) => check_R hd hW
  rw [hrd] at hce
  have HCE := Lib.hid hce
  clear hd hk1 hk2 hk3 hA hdoes hrd hmb hg hce
  have hnil : ∀ w W : World, W.ownsRow w.heap.size 5 1 (.slice none 0 0) 0 (bv []) := fun w W => World.ownsRow_nil _ _ _ _
  have HB := Lib.hid (Below.refl w.heap.size w)
  go_enter Try.func50, Try.ntmps50
  have hc4 := laid_cells HK.out
  go_wp2_with (refine Agg.gLoad 4 [.slice px d.pages.length pc, .slice cx d.cache.length cc, .int .i64 d.fuse, .bool d.off] rfl rfl rfl (by decide +kernel) rfl hc4 ?_; simp only [Act.put, List.setIfInBounds_toArray, List.set_cons_succ, List.set_cons_zero])
  clear hc4
  refine (HCE.out w HD.out).mono ?_
  rintro e w1 ⟨rfl, hb⟩
  replace HB := Lib.hid (HB.out.trans (hb.mono HB.out.size))
  replace HK := Lib.hid (HK.out.keep hb)
  replace HD := Lib.hid (HD.out.keep hb)
  replace HA := Lib.hid (HA.out.keep hb)
  clear hb
  cases rd
  · have hg := HG.out
    rw [if_pos rfl] at hg
    subst hg
    simp only [Bool.false_eq_true, if_false]
    go_wp2_with fail
    go_ret2
    exact ⟨_, rfl, hnil _ _, HB.out⟩
  · have hg := HG.out
    rw [if_neg (by simp)] at hg
    simp only [if_true]
    clear HG
    have k3 := HK.out.cell 3
    simp only [List.getElem?_cons_zero, List.getElem?_cons_succ] at k3
    obtain ⟨of, hof⟩ : ∃ b, d.off = b := ⟨_, rfl⟩
    have HOF := Lib.hid hof
    rw [hof] at hg k3
    clear hof
    cases of
    · rw [if_neg (by simp)] at hg
      go_wp2_with fail
      clear k3
      refine (may_any A px cx ax d.pages.length pc d.cache.length cc ac d.fuse d.off kind bytes kl w1 HK.out HA.out hb1 hb2 mb HMB.out).mono ?_
      rintro e w2 ⟨rfl, hb⟩
      replace HB := Lib.hid (HB.out.trans (hb.mono HB.out.size))
      replace HK := Lib.hid (HK.out.keep hb)
      replace HD := Lib.hid (HD.out.keep hb)
      replace HA := Lib.hid (HA.out.keep hb)
      clear hb
      cases mb
      · rw [if_pos rfl] at hg
        subst hg
        go_wp2_with fail
        go_ret2
        exact ⟨_, rfl, hnil _ _, HB.out⟩
      · rw [if_neg (by simp)] at hg
        subst hg
        have hsz := HB.out.size
        go_wp2_with fail
        refine (HDO.out (by first | rfl | trivial) HOF.out (by first | rfl | trivial) w2 HB.out).mono ?_
        rintro e w9 ⟨v, rfl, hdv, hgr⟩
        obtain ⟨vx, vc, rfl, _, _⟩ := (ownSl hdv).shape
        have HDV := Lib.hid hdv
        clear hdv
        replace HB := Lib.hid (HB.out.trans (hgr.mono HB.out.size))
        clear hgr
        go_wp2_with fail
        go_ret2
        exact ⟨_, rfl, own_base HDV.out hsz, HB.out⟩
    · rw [if_pos rfl] at hg
      subst hg
      go_wp2_with fail
      go_ret2
      exact ⟨_, rfl, hnil _ _, HB.out⟩
theorem mayB_ge {A : List Int} {kind bytes : Int} {np : Nat} (h : mayB A kind bytes np = true) : 1 ≤ bytes := by
  unfold mayB at h
  simp only [Bool.and_eq_true, decide_eq_true_eq] at h
  exact h.1.1.1
theorem build_laid (px cx ax : Option Addr) (np pc nc cc na ac : Nat) (z : Int) (q : Bool) (kind : Int) (w : World) : (Instr.build 92 #[(0, .agg #[.slice px np pc, .slice cx nc cc, .int .i64 z, .bool q]), (1, .slice ax na ac), (2, .int .i64 kind)]).run Try.prog w = .ok (.agg (LaidV px cx ax np pc nc cc na ac z q kind).toArray) w := by
  have h := run_build_seq (P := Try.prog) (t := 92) (pl := [(0, 4), (4, 1), (5, 1)]) (N := 6) (by kernel_rfl) rfl [.agg #[.slice px np pc, .slice cx nc cc, .int .i64 z, .bool q], .slice ax na ac, .int .i64 kind] (by simp [Value.cells]) (by simp [Value.cells]) w
  simpa [Value.cells] using h
theorem own_weak' {w w' w0 : World} {e : TypeId} {sz n : Nat} {v : Value} {xs : List Value} (h : w'.ownsRow w.heap.size e sz v n xs) (hb : Below w0.heap.size w0 w) : w'.ownsRow w0.heap.size e sz v n xs := own_base h hb.size
set_option maxHeartbeats 4000000 in
set_option maxRecDepth 100000 in
theorem Get_any (d : Dev) (A : List Int) (kind bytes : Int) (dv av : Value) (w : World) (hd : DGood d) (hc : d.cache.length ≤ 10000) (hD : DevR w dv d) (hA : Ints w av A) (hb1 : -9223372036854775808 ≤ bytes) (hb2 : bytes ≤ 9223372036854775807) (hal : A.length ≤ 1000) :
    Calls Try.prog 26 #[dv, av, .int .i64 kind, .int .i64 bytes] w fun e w' => ∃ u, e = .returned (.tuple #[u, .int .i64 (fGet d A kind bytes).2]) ∧ w'.ownsRow w.heap.size 5 1 u (fGet d A kind bytes).1.length (bv (fGet d A kind bytes).1) ∧ Below w.heap.size w w' := by
  obtain ⟨ax, ac, rfl, _, _⟩ := SlR.shape hA
  obtain ⟨px, cx, pc, cc, rfl, hk2, hk3⟩ := hD
  have HD : Hid (DevR w (.agg #[.slice px d.pages.length pc, .slice cx d.cache.length cc, .int .i64 d.fuse, .bool d.off]) d) := Lib.hid ⟨px, cx, pc, cc, rfl, hk2, hk3⟩
  have HA := Lib.hid hA
  have HDG := Lib.hid hd
  have hfg : fGet d A kind bytes = askY d (mayB A kind bytes d.pages.length) (getsP d kind bytes 0 0 [] A) := rfl
  rw [hfg]
  clear hfg hd hA hk2 hk3
  have HB := Lib.hid (Below.refl w.heap.size w)
  go_enter Try.func26, Try.ntmps26
  go_upto_region 1 with (fail)
  refine Agg.wp_at fun w1 hw1 => ?_
  have hb : Below w.heap.size w w1 := by rw [hw1.out]; repeat (first | exact Below.refl _ _ | refine Agg.bel_drew ?_ | refine Agg.bel_alloc ?_ _)
  replace HB := Lib.hid (HB.out.trans (hb.mono HB.out.size))
  replace HD := Lib.hid (HD.out.keep hb)
  replace HA := Lib.hid (HA.out.keep hb)
  clear hb
  have H1 : Hid (Blk w1 w.heap.size 46 [.slice px d.pages.length pc, .slice cx d.cache.length cc, .int .i64 d.fuse, .bool d.off]) := by show Blk _ _ _ _; rw [hw1.out]; exact (((Blk.new w 46 #[.slice px d.pages.length pc, .slice cx d.cache.length cc, .int .i64 d.fuse, .bool d.off]).al _).al _).al _
  have H2 : Hid (Blk w1 (w.heap.size + 1) 22 [.slice ax A.length ac]) := by show Blk _ _ _ _; rw [hw1.out]; exact ((Blk.newAt (w.alloc _) 22 #[.slice ax A.length ac] _ (by simp)).al _).al _
  have H3 : Hid (Blk w1 (w.heap.size + 1 + 1) 3 [.int .i64 kind]) := by show Blk _ _ _ _; rw [hw1.out]; exact (Blk.newAt ((w.alloc _).alloc _) 3 #[.int .i64 kind] _ (by simp)).al _
  have H4 : Hid (Blk w1 (w.heap.size + 1 + 1 + 1) 3 [.int .i64 bytes]) := by show Blk _ _ _ _; rw [hw1.out]; exact Blk.newAt (((w.alloc _).alloc _).alloc _) 3 #[.int .i64 bytes] _ (by simp)
  clear hw1
  have xH2_0 := H2.out.cell 0
  have lH2 := H2.out.lt
  simp only [List.getElem?_cons_zero] at xH2_0
  have xH3_0 := H3.out.cell 0
  have lH3 := H3.out.lt
  simp only [List.getElem?_cons_zero] at xH3_0
  have xH4_0 := H4.out.cell 0
  have lH4 := H4.out.lt
  simp only [List.getElem?_cons_zero] at xH4_0
  have h1 := H1.out
  go_wp2_with (first
    | (refine Agg.gLoadB 4 h1 rfl rfl rfl rfl (by decide +kernel) ?_; simp only [Act.put, List.setIfInBounds_toArray, List.set_cons_succ, List.set_cons_zero]))
  clear xH2_0 lH2 xH3_0 lH3 xH4_0 lH4
  clear h1
  refine Agg.calls_at fun w2 hw2 => ?_
  have hb : Below w1.heap.size w1 w2 := by rw [hw2.out]; repeat (first | exact Below.refl _ _ | refine Agg.bel_drew ?_ | refine Agg.bel_alloc ?_ _)
  replace HB := Lib.hid (HB.out.trans (hb.mono HB.out.size))
  replace HD := Lib.hid (HD.out.keep hb)
  replace HA := Lib.hid (HA.out.keep hb)
  replace H1 := Lib.hid (H1.out.keep hb)
  replace H2 := Lib.hid (H2.out.keep hb)
  replace H3 := Lib.hid (H3.out.keep hb)
  replace H4 := Lib.hid (H4.out.keep hb)
  clear hb
  have HL : Hid (LaidR w2 w1.heap.size d ax A.length ac kind) := by
    refine Lib.hid ?_
    obtain ⟨x, y, c1, c2, he, hp, hv⟩ := HD.out
    simp only [Value.agg.injEq, Array.mk.injEq, List.cons.injEq, Value.slice.injEq, true_and, and_true] at he
    obtain ⟨⟨rfl, rfl⟩, rfl, rfl⟩ := he
    refine ⟨px, cx, pc, cc, ?_, hp, hv⟩
    show Blk _ _ _ _
    rw [hw2.out]
    exact Blk.new w1 92 (LaidV px cx ax d.pages.length pc d.cache.length cc A.length ac d.fuse d.off kind).toArray
  clear hw2
  refine (askedY_any d A kind bytes 51 _ (Agg.enters Try.func51 (by kernel_rfl) rfl) (getsP d kind bytes 0 0 [] A) ax ac _ w2 HDG.out HL.out HA.out (by omega) hb2 (fun _ _ hm W hb => getC_any d A kind bytes (.agg #[]) ax ac _ _ _ _ px cx pc cc W HDG.out hc (H2.out.keep hb) (H1.out.keep hb) (H3.out.keep hb) (H4.out.keep hb) (SlR.keep HA.out hb) (HD.out.keep hb) hal (by have := mayB_ge hm; omega) hb2)).mono ?_
  rintro e w9 ⟨v, rfl, hdv, hgr⟩
  obtain ⟨vx, vc, rfl, _, _⟩ := (ownSl hdv).shape
  have HDV := Lib.hid hdv
  have hsz := HB.out.size
  clear hdv
  replace HB := Lib.hid (HB.out.trans (hgr.mono HB.out.size))
  clear hgr
  go_wp2_with fail
  go_ret2
  exact ⟨_, rfl, own_base HDV.out hsz, HB.out⟩
end Go.Proofs.Ytgfmpkcgkjpgnaa
end
