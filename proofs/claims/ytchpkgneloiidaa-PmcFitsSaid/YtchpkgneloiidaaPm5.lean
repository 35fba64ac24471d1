/-
  THE WALKS OF LAYER 8 (pmc): Common, Longest, Fit.
-/
import Derived.Test.YtchpkgneloiidaaPm4
namespace Go.Proofs.Ytchpkgneloiidaa
open Go.ChangeShapes Go.WideShapes Go.ChangeAt Go.RowKit Agg Pg Pm
attribute [local go_sem] Oper.semAt_some

/-- the constants that go through all of some bands -/
def com1P (l : List Bd) : Spn × Int := if (longest l).2 = l.length then ((longest l).1.1, 0) else ((0, 0), 181)
def commonP (l : List Bd) : Spn × Int := if checkB l then com1P l else ((0, 0), 180)
set_option maxHeartbeats 4000000 in
set_option maxRecDepth 100000 in
theorem com1_any (l : List Bd) (v : Value) (kb : Nat) (w : World) (hk : Blk w kb 22 [v]) (hl : Bds w v l) (hok : Okb l) :
    Calls Try.prog 28 #[.pointer (some ⟨kb, 0, none⟩)] w fun e w' => e = .returned (.tuple #[.agg #[.int .i64 (com1P l).1.1, .int .i64 (com1P l).1.2], .int .i64 (com1P l).2]) ∧ Below w.heap.size w w' := by
  obtain ⟨x, cap, rfl, _⟩ := SlR.shape hl
  obtain ⟨⟨⟨r1, r2⟩, er⟩, hr⟩ : ∃ r, com1P l = r := ⟨_, rfl⟩
  rw [hr]
  unfold com1P at hr
  have hlo := fun W hW => longest_any l (.slice x l.length cap) W hW hok
  obtain ⟨⟨⟨⟨c1, c2⟩, cs⟩, n⟩, hn⟩ : ∃ r, longest l = r := ⟨_, rfl⟩
  rw [hn] at hr hlo
  have HLO := Lib.hid hlo
  have HR := Lib.hid hr
  have HL := Lib.hid hl
  have HK := Lib.hid hk
  clear hk hl hok hr hlo hn
  simp only [comC] at HLO
  have HB := Lib.hid (Below.refl w.heap.size w)
  go_enter Try.func28, Try.ntmps28
  go_upto_region 1 with (fail)
  refine Agg.wp_at fun w1 hw1 => ?_
  have hb : Below w.heap.size w w1 := by rw [hw1.out]; repeat (first | exact Below.refl _ _ | refine Agg.bel_drew ?_ | refine Agg.bel_alloc ?_ _)
  replace HB := Lib.hid (HB.out.trans (hb.mono HB.out.size))
  replace HL := Lib.hid (HL.out.keep hb)
  replace HK := Lib.hid (HK.out.keep hb)
  clear hb
  have HG : Hid (Blk w1 w.heap.size 26 [.int .i64 0, .int .i64 0]) := by show Blk _ _ _ _; rw [hw1.out]; exact Blk.new w 26 #[.int .i64 0, .int .i64 0]
  clear hw1
  have k0 := HK.out.cell 0
  simp only [List.getElem?_cons_zero] at k0
  go_wp2_with fail
  clear k0
  refine (HLO.out w1 HL.out).mono ?_
  rintro e w2 ⟨rfl, hb⟩
  replace HB := Lib.hid (HB.out.trans (hb.mono HB.out.size))
  replace HL := Lib.hid (HL.out.keep hb)
  replace HK := Lib.hid (HK.out.keep hb)
  replace HG := Lib.hid (HG.out.keep hb)
  clear hb
  have k0 := HK.out.cell 0
  simp only [List.getElem?_cons_zero] at k0
  go_upto_region 2 with (first
    | (refine Agg.allocRow 62 #[.int .i64 0, .int .i64 0, .bool false] rfl rfl (by kernel_rfl) ?_; simp only [Act.put, List.setIfInBounds_toArray, List.set_cons_succ, List.set_cons_zero])
    | (refine Agg.gStoreNew 3 [.int .i64 c1, .int .i64 c2, .bool cs] rfl rfl rfl rfl rfl rfl (by decide +kernel) rfl rfl rfl ?_; simp only [Act.put]))
  clear k0
  refine Agg.wp_at fun w3 hw3 => ?_
  have hb : Below w2.heap.size w2 w3 := by rw [hw3.out]; repeat (first | exact Below.refl _ _ | refine Agg.bel_drew ?_ | refine Agg.bel_alloc ?_ _)
  replace HB := Lib.hid (HB.out.trans (hb.mono HB.out.size))
  replace HL := Lib.hid (HL.out.keep hb)
  replace HK := Lib.hid (HK.out.keep hb)
  replace HG := Lib.hid (HG.out.keep hb)
  clear hb
  have HX : Hid (Blk w3 w2.heap.size 62 [.int .i64 c1, .int .i64 c2, .bool cs]) := by show Blk _ _ _ _; rw [hw3.out]; exact Blk.new w2 62 #[.int .i64 c1, .int .i64 c2, .bool cs]
  clear hw3
  generalize w2.heap.size = gx at *
  have k0 := HK.out.cell 0
  have x0 := HX.out.cell 0
  have x1 := HX.out.cell 1
  simp only [List.getElem?_cons_zero, List.getElem?_cons_succ] at k0 x0 x1
  have hg := HG.out
  have hr := HR.out
  by_cases he : n = l.length
  · rw [if_pos he] at hr
    simp only [Prod.mk.injEq] at hr
    obtain ⟨⟨rfl, rfl⟩, rfl⟩ := hr
    have heb : ((n : Int) == (l.length : Int)) = true := by simp [he]
    clear he HR HLO
    go_wp2_with (refine Agg.gStoreB 2 [.int .i64 c1, .int .i64 c2] hg rfl rfl rfl rfl rfl (by decide +kernel) rfl rfl (by simp [Value.oneCell']) (fun w14 hb14 hg14 => ?_))
    refine bodyPost_ret (results_row2 (m := 2) rfl hb14 rfl (by decide +kernel) rfl) rfl ⟨rfl, ?_⟩
    exact HB.out.trans (grown_below hg14 HB.out.size (fun j hj => by cases hj; exact Nat.le_refl _))
  · rw [if_neg he] at hr
    simp only [Prod.mk.injEq] at hr
    obtain ⟨⟨rfl, rfl⟩, rfl⟩ := hr
    have heb : ((n : Int) == (l.length : Int)) = false := by simp; omega
    clear he HR HLO
    go_wp2_with (refine Agg.gStoreB 2 [.int .i64 0, .int .i64 0] hg rfl rfl rfl rfl rfl (by decide +kernel) rfl rfl (by simp [Value.oneCell']) (fun w14 hb14 hg14 => ?_))
    refine bodyPost_ret (results_row2 (m := 2) rfl hb14 rfl (by decide +kernel) rfl) rfl ⟨rfl, ?_⟩
    exact HB.out.trans (grown_below hg14 HB.out.size (fun j hj => by cases hj; exact Nat.le_refl _))
set_option maxHeartbeats 4000000 in
set_option maxRecDepth 100000 in
theorem tellsS_any (l : List Bd) (v : Value) (kb : Nat) (w : World) (hk : Blk w kb 22 [v]) (hl : Bds w v l) (r : Spn) (er : Int) (hr : commonP l = (r, er)) :
    Calls Try.prog 27 #[v, .func (.func 28) #[] #[.pointer (some ⟨kb, 0, none⟩)]] w fun e w' => e = .returned (.tuple #[.agg #[.int .i64 r.1, .int .i64 r.2], .int .i64 er]) ∧ Below w.heap.size w w' := by
  obtain ⟨x, cap, rfl, _⟩ := SlR.shape hl
  obtain ⟨q, hq⟩ : ∃ q, checkB l = q := ⟨_, rfl⟩
  unfold commonP at hr
  rw [hq] at hr
  have HR := Lib.hid hr
  have HQ := Lib.hid hq
  have HL := Lib.hid hl
  have HK := Lib.hid hk
  clear hk hl hr hq
  have HB := Lib.hid (Below.refl w.heap.size w)
  go_enter Try.func27, Try.ntmps27
  go_upto_region 1 with (fail)
  refine Agg.wp_at fun w1 hw1 => ?_
  have hb : Below w.heap.size w w1 := by rw [hw1.out]; repeat (first | exact Below.refl _ _ | refine Agg.bel_drew ?_ | refine Agg.bel_alloc ?_ _)
  replace HB := Lib.hid (HB.out.trans (hb.mono HB.out.size))
  replace HL := Lib.hid (HL.out.keep hb)
  replace HK := Lib.hid (HK.out.keep hb)
  clear hb
  have HG : Hid (Blk w1 w.heap.size 26 [.int .i64 0, .int .i64 0]) := by show Blk _ _ _ _; rw [hw1.out]; exact Blk.new w 26 #[.int .i64 0, .int .i64 0]
  clear hw1
  go_wp2_with fail
  refine (chkB_any l _ w1 HL.out q HQ.out).mono ?_
  rintro e w2 ⟨rfl, hb⟩
  replace HB := Lib.hid (HB.out.trans (hb.mono HB.out.size))
  replace HL := Lib.hid (HL.out.keep hb)
  replace HK := Lib.hid (HK.out.keep hb)
  replace HG := Lib.hid (HG.out.keep hb)
  clear hb
  cases q
  · have hr := HR.out
    rw [if_neg (by decide)] at hr
    simp only [Prod.mk.injEq] at hr
    obtain ⟨rfl, rfl⟩ := hr
    go_upto_region 4 with (fail)
    refine Agg.wp_at fun w3 hw3 => ?_
    have hb : Below w2.heap.size w2 w3 := by rw [hw3.out]; repeat (first | exact Below.refl _ _ | refine Agg.bel_drew ?_ | refine Agg.bel_alloc ?_ _)
    replace HB := Lib.hid (HB.out.trans (hb.mono HB.out.size))
    replace HL := Lib.hid (HL.out.keep hb)
    replace HK := Lib.hid (HK.out.keep hb)
    replace HG := Lib.hid (HG.out.keep hb)
    clear hb
    have HG2 : Hid (Blk w3 w2.heap.size 26 [.int .i64 0, .int .i64 0]) := by show Blk _ _ _ _; rw [hw3.out]; exact Blk.new w2 26 #[.int .i64 0, .int .i64 0]
    clear hw3
    generalize w2.heap.size = gx at *
    have hg2 := HG2.out
    have hg := HG.out
    go_wp2_with (first
      | (refine Agg.gLoadB 2 hg2 rfl rfl rfl rfl (by decide +kernel) ?_; simp only [Act.put, List.setIfInBounds_toArray, List.set_cons_succ, List.set_cons_zero]; clear hg2)
      | (refine Agg.gStoreB 2 [.int .i64 0, .int .i64 0] hg rfl rfl rfl rfl rfl (by decide +kernel) rfl rfl (by simp [Value.oneCell']) (fun w14 hb14 hg14 => ?_)))
    refine bodyPost_ret (results_row2 (m := 2) rfl hb14 rfl (by decide +kernel) rfl) rfl ⟨rfl, ?_⟩
    exact HB.out.trans (grown_below hg14 HB.out.size (fun j hj => by cases hj; exact Nat.le_refl _))
  · have hr := HR.out
    rw [if_pos rfl] at hr
    have hce := com1_any l (.slice x l.length cap) kb w2 HK.out HL.out (check_len HQ.out).2.2.2
    rw [hr] at hce
    have HCE := Lib.hid hce
    clear hr hce
    go_wp2_with fail
    refine (HCE.out).mono ?_
    rintro e w4 ⟨rfl, hb⟩
    replace HB := Lib.hid (HB.out.trans (hb.mono HB.out.size))
    replace HL := Lib.hid (HL.out.keep hb)
    replace HK := Lib.hid (HK.out.keep hb)
    replace HG := Lib.hid (HG.out.keep hb)
    clear hb
    have hg := HG.out
    go_wp2_with (refine Agg.gStoreB 2 [.int .i64 r.1, .int .i64 r.2] hg rfl rfl rfl rfl rfl (by decide +kernel) rfl rfl (by simp [Value.oneCell']) (fun w14 hb14 hg14 => ?_))
    refine bodyPost_ret (results_row2 (m := 2) rfl hb14 rfl (by decide +kernel) rfl) rfl ⟨rfl, ?_⟩
    exact HB.out.trans (grown_below hg14 HB.out.size (fun j hj => by cases hj; exact Nat.le_refl _))
set_option maxHeartbeats 4000000 in
set_option maxRecDepth 100000 in
theorem common_any (l : List Bd) (v : Value) (w : World) (hl : Bds w v l) (r : Spn) (er : Int) (hr : commonP l = (r, er)) :
    Calls Try.prog 12 #[v] w fun e w' => e = .returned (.tuple #[.agg #[.int .i64 r.1, .int .i64 r.2], .int .i64 er]) ∧ Below w.heap.size w w' := by
  obtain ⟨x, cap, rfl, _⟩ := SlR.shape hl
  have HR := Lib.hid hr
  have HL := Lib.hid hl
  have hmf : ∀ (fn : Fn) (first cap : Array Value) (w : World), (Instr.makeFunc fn first cap).run Try.prog w = .ok (.func fn first cap) w := fun _ _ _ _ => rfl
  clear hl hr
  have HB := Lib.hid (Below.refl w.heap.size w)
  go_enter Try.func12, Try.ntmps12
  go_upto_region 1 with (fail)
  refine Agg.wp_at fun w1 hw1 => ?_
  have hb : Below w.heap.size w w1 := by rw [hw1.out]; repeat (first | exact Below.refl _ _ | refine Agg.bel_drew ?_ | refine Agg.bel_alloc ?_ _)
  replace HB := Lib.hid (HB.out.trans (hb.mono HB.out.size))
  replace HL := Lib.hid (HL.out.keep hb)
  clear hb
  have HK : Hid (Blk w1 w.heap.size 22 [.slice x l.length cap]) := by show Blk _ _ _ _; rw [hw1.out]; exact (Blk.new w 22 #[.slice x l.length cap]).al _
  have HG : Hid (Blk w1 (w.heap.size + 1) 26 [.int .i64 0, .int .i64 0]) := by show Blk _ _ _ _; rw [hw1.out]; exact Blk.newAt (w.alloc _) 26 #[.int .i64 0, .int .i64 0] _ (by simp)
  clear hw1
  have k0 := HK.out.cell 0
  simp only [List.getElem?_cons_zero] at k0
  go_wp2_with fail
  clear k0
  refine (tellsS_any l _ w.heap.size w1 HK.out HL.out r er HR.out).mono ?_
  rintro e w2 ⟨rfl, hb⟩
  replace HB := Lib.hid (HB.out.trans (hb.mono HB.out.size))
  replace HL := Lib.hid (HL.out.keep hb)
  replace HK := Lib.hid (HK.out.keep hb)
  replace HG := Lib.hid (HG.out.keep hb)
  clear hb
  have hg := HG.out
  go_wp2_with (refine Agg.gStoreB 2 [.int .i64 r.1, .int .i64 r.2] hg rfl rfl rfl rfl rfl (by decide +kernel) rfl rfl (by simp [Value.oneCell']) (fun w14 hb14 hg14 => ?_))
  refine bodyPost_ret (results_row2 (m := 2) rfl hb14 rfl (by decide +kernel) rfl) rfl ⟨rfl, ?_⟩
  exact HB.out.trans (grown_below hg14 HB.out.size (fun j hj => by cases hj; exact Nat.le_succ _))
/-- how many bands the longest first part has -/
def longP (l : List Bd) : Int × Int := if checkB l then ((longest l).2, 0) else (0, 180)
set_option maxHeartbeats 4000000 in
set_option maxRecDepth 100000 in
theorem long1_any (l : List Bd) (v : Value) (kb : Nat) (w : World) (hk : Blk w kb 22 [v]) (hl : Bds w v l) (hok : Okb l) :
    Calls Try.prog 35 #[.pointer (some ⟨kb, 0, none⟩)] w fun e w' => e = .returned (.tuple #[.int .i64 ((longest l).2 : Int), .int .i64 0]) ∧ Below w.heap.size w w' := by
  obtain ⟨x, cap, rfl, _⟩ := SlR.shape hl
  have hlo := fun W hW => longest_any l (.slice x l.length cap) W hW hok
  obtain ⟨⟨⟨⟨c1, c2⟩, cs⟩, n⟩, hn⟩ : ∃ r, longest l = r := ⟨_, rfl⟩
  rw [hn] at hlo ⊢
  have HLO := Lib.hid hlo
  have HL := Lib.hid hl
  have HK := Lib.hid hk
  clear hk hl hok hlo hn
  simp only [comC] at HLO
  have HB := Lib.hid (Below.refl w.heap.size w)
  go_enter Try.func35, Try.ntmps35
  have k0 := HK.out.cell 0
  simp only [List.getElem?_cons_zero] at k0
  go_wp2_with fail
  clear k0
  refine (HLO.out w HL.out).mono ?_
  rintro e w1 ⟨rfl, hb⟩
  replace HB := Lib.hid (HB.out.trans (hb.mono HB.out.size))
  replace HL := Lib.hid (HL.out.keep hb)
  replace HK := Lib.hid (HK.out.keep hb)
  clear hb
  go_upto_region 2 with (first
    | (refine Agg.allocRow 62 #[.int .i64 0, .int .i64 0, .bool false] rfl rfl (by kernel_rfl) ?_; simp only [Act.put, List.setIfInBounds_toArray, List.set_cons_succ, List.set_cons_zero])
    | (refine Agg.gStoreNew 3 [.int .i64 c1, .int .i64 c2, .bool cs] rfl rfl rfl rfl rfl rfl (by decide +kernel) rfl rfl rfl ?_; simp only [Act.put]))
  go_wp2_with fail
  go_ret2
  exact ⟨rfl, bel_alloc HB.out _⟩
set_option maxHeartbeats 4000000 in
set_option maxRecDepth 100000 in
theorem tellsI_any (l : List Bd) (v : Value) (kb : Nat) (w : World) (hk : Blk w kb 22 [v]) (hl : Bds w v l) (r er : Int) (hr : longP l = (r, er)) :
    Calls Try.prog 34 #[v, .func (.func 35) #[] #[.pointer (some ⟨kb, 0, none⟩)]] w fun e w' => e = .returned (.tuple #[.int .i64 r, .int .i64 er]) ∧ Below w.heap.size w w' := by
  obtain ⟨x, cap, rfl, _⟩ := SlR.shape hl
  obtain ⟨q, hq⟩ : ∃ q, checkB l = q := ⟨_, rfl⟩
  unfold longP at hr
  rw [hq] at hr
  have HR := Lib.hid hr
  have HQ := Lib.hid hq
  have HL := Lib.hid hl
  have HK := Lib.hid hk
  clear hk hl hr hq
  have HB := Lib.hid (Below.refl w.heap.size w)
  go_enter Try.func34, Try.ntmps34
  go_wp2_with fail
  refine (chkB_any l _ w HL.out q HQ.out).mono ?_
  rintro e w1 ⟨rfl, hb⟩
  replace HB := Lib.hid (HB.out.trans (hb.mono HB.out.size))
  replace HL := Lib.hid (HL.out.keep hb)
  replace HK := Lib.hid (HK.out.keep hb)
  clear hb
  cases q
  · have hr := HR.out
    rw [if_neg (by decide)] at hr
    simp only [Prod.mk.injEq] at hr
    obtain ⟨rfl, rfl⟩ := hr
    go_wp2_with fail
    go_ret2
    exact ⟨rfl, HB.out⟩
  · have hr := HR.out
    rw [if_pos rfl] at hr
    simp only [Prod.mk.injEq] at hr
    obtain ⟨rfl, rfl⟩ := hr
    have hce := long1_any l (.slice x l.length cap) kb w1 HK.out HL.out (check_len HQ.out).2.2.2
    have HCE := Lib.hid hce
    clear hce
    go_wp2_with fail
    refine (HCE.out).mono ?_
    rintro e w2 ⟨rfl, hb⟩
    replace HB := Lib.hid (HB.out.trans (hb.mono HB.out.size))
    replace HL := Lib.hid (HL.out.keep hb)
    replace HK := Lib.hid (HK.out.keep hb)
    clear hb
    go_wp2_with fail
    go_ret2
    exact ⟨rfl, HB.out⟩
set_option maxHeartbeats 4000000 in
set_option maxRecDepth 100000 in
theorem longestX_any (l : List Bd) (v : Value) (w : World) (hl : Bds w v l) (r er : Int) (hr : longP l = (r, er)) :
    Calls Try.prog 19 #[v] w fun e w' => e = .returned (.tuple #[.int .i64 r, .int .i64 er]) ∧ Below w.heap.size w w' := by
  obtain ⟨x, cap, rfl, _⟩ := SlR.shape hl
  have HR := Lib.hid hr
  have HL := Lib.hid hl
  have hmf : ∀ (fn : Fn) (first cap : Array Value) (w : World), (Instr.makeFunc fn first cap).run Try.prog w = .ok (.func fn first cap) w := fun _ _ _ _ => rfl
  clear hl hr
  have HB := Lib.hid (Below.refl w.heap.size w)
  go_enter Try.func19, Try.ntmps19
  go_upto_region 1 with (fail)
  refine Agg.wp_at fun w1 hw1 => ?_
  have hb : Below w.heap.size w w1 := by rw [hw1.out]; repeat (first | exact Below.refl _ _ | refine Agg.bel_drew ?_ | refine Agg.bel_alloc ?_ _)
  replace HB := Lib.hid (HB.out.trans (hb.mono HB.out.size))
  replace HL := Lib.hid (HL.out.keep hb)
  clear hb
  have HK : Hid (Blk w1 w.heap.size 22 [.slice x l.length cap]) := by show Blk _ _ _ _; rw [hw1.out]; exact Blk.new w 22 #[.slice x l.length cap]
  clear hw1
  have k0 := HK.out.cell 0
  simp only [List.getElem?_cons_zero] at k0
  go_wp2_with fail
  clear k0
  refine (tellsI_any l _ w.heap.size w1 HK.out HL.out r er HR.out).mono ?_
  rintro e w2 ⟨rfl, hb⟩
  replace HB := Lib.hid (HB.out.trans (hb.mono HB.out.size))
  replace HL := Lib.hid (HL.out.keep hb)
  replace HK := Lib.hid (HK.out.keep hb)
  clear hb
  go_wp2_with fail
  go_ret2
  exact ⟨rfl, HB.out⟩
/-- the constant that is told -/
def fitP (l : List Bd) : Int × Int := if (commonP l).2 = 0 then (midI (commonP l).1, 0) else (0, (commonP l).2)
set_option maxHeartbeats 4000000 in
set_option maxRecDepth 100000 in
theorem fit_any (l : List Bd) (v : Value) (w : World) (hl : Bds w v l) (hco : (commonP l).2 = 0 → (commonP l).1.1 ≤ (commonP l).1.2 ∧ I64 (commonP l).1.1 ∧ I64 (commonP l).1.2) (r er : Int) (hr : fitP l = (r, er)) :
    Calls Try.prog 13 #[v] w fun e w' => e = .returned (.tuple #[.int .i64 r, .int .i64 er]) ∧ Below w.heap.size w w' := by
  obtain ⟨x, cap, rfl, _⟩ := SlR.shape hl
  obtain ⟨⟨⟨c1, c2⟩, ec⟩, hc⟩ : ∃ r, commonP l = r := ⟨_, rfl⟩
  unfold fitP at hr
  rw [hc] at hr hco
  have HR := Lib.hid hr
  have HL := Lib.hid hl
  have HC := Lib.hid hc
  have HCO := Lib.hid hco
  clear hl hr hc hco
  simp only at HR HCO
  have HB := Lib.hid (Below.refl w.heap.size w)
  go_enter Try.func13, Try.ntmps13
  go_wp2_with fail
  refine (common_any l _ w HL.out (c1, c2) ec HC.out).mono ?_
  rintro e w1 ⟨rfl, hb⟩
  replace HB := Lib.hid (HB.out.trans (hb.mono HB.out.size))
  replace HL := Lib.hid (HL.out.keep hb)
  clear hb
  go_upto_region 2 with (first
    | (refine Agg.allocRow 26 #[.int .i64 0, .int .i64 0] rfl rfl (by kernel_rfl) ?_; simp only [Act.put, List.setIfInBounds_toArray, List.set_cons_succ, List.set_cons_zero])
    | (refine Agg.gStoreNew 2 [.int .i64 c1, .int .i64 c2] rfl rfl rfl rfl rfl rfl (by decide +kernel) rfl rfl rfl ?_; simp only [Act.put]))
  refine Agg.wp_at fun w2 hw2 => ?_
  have hb : Below w1.heap.size w1 w2 := by rw [hw2.out]; repeat (first | exact Below.refl _ _ | refine Agg.bel_drew ?_ | refine Agg.bel_alloc ?_ _)
  replace HB := Lib.hid (HB.out.trans (hb.mono HB.out.size))
  replace HL := Lib.hid (HL.out.keep hb)
  clear hb
  have HX : Hid (Blk w2 w1.heap.size 26 [.int .i64 c1, .int .i64 c2]) := by show Blk _ _ _ _; rw [hw2.out]; exact Blk.new w1 26 #[.int .i64 c1, .int .i64 c2]
  clear hw2
  generalize w1.heap.size = gx at *
  have hr := HR.out
  by_cases h0 : ec = 0
  · rw [if_pos h0] at hr
    simp only [Prod.mk.injEq] at hr
    obtain ⟨rfl, rfl⟩ := hr
    subst h0
    obtain ⟨k1, k2, k3⟩ := HCO.out rfl
    have hx := HX.out
    have hm := fun W => middle_any c1 c2 W k2 k3 (midI (c1, c2)) 0 (by rw [if_neg (by omega)])
    have HM := Lib.hid hm
    clear hm k1 k2 k3 HCO HR HC
    go_wp2_with (refine Agg.gLoadB 2 hx rfl rfl rfl rfl (by decide +kernel) ?_; simp only [Act.put, List.setIfInBounds_toArray, List.set_cons_succ, List.set_cons_zero]; clear hx)
    refine (HM.out w2).mono ?_
    rintro e w3 ⟨rfl, hb⟩
    replace HB := Lib.hid (HB.out.trans (hb.mono HB.out.size))
    replace HX := Lib.hid (HX.out.keep hb)
    clear hb
    go_wp2_with fail
    go_ret2
    exact ⟨rfl, HB.out⟩
  · rw [if_neg h0] at hr
    simp only [Prod.mk.injEq] at hr
    obtain ⟨rfl, rfl⟩ := hr
    have h0b : (ec != 0) = true := by simpa using h0
    go_wp2_with fail
    go_ret2
    exact ⟨rfl, HB.out⟩
end Go.Proofs.Ytchpkgneloiidaa
