/-
  FILES: the document's Laid.
-/
import Derived.Test.YtgfmpkcgkjpgnaaFiA
import Derived.Test.YtgfmpkcgkjpgnaaCopy
import Derived.Test.YtgfmpkcgkjpgnaaAgg2
section
namespace Go.Proofs.Ytgfmpkcgkjpgnaa
open Go.ChangeShapes Go.WideShapes Go.ChangeAt Go.RowKit Agg Pg Dv Fi
attribute [local go_sem] Oper.semAt_some

theorem ints_pre {w : World} {x : Option Addr} {cap : Nat} {l : List Int} (h : Ints w (.slice x l.length cap) l) (k : Nat) (hk : k ≤ l.length) : Ints w (.slice x k cap) (l.take k) := by
  have := SlR.take h k hk
  have hle : (l.take k).length = k := by rw [List.length_take]; omega
  show SlR _ _ _ _ _
  rw [hle]
  have e : iC (l.take k) = (iC l).take (k * 1) := by unfold iC; rw [Nat.mul_one, List.map_take]
  rw [e]; exact this
theorem needN_iff {n : Nat} {b : Int} (h : 1 ≤ b) : (n : Int) = needN b ↔ b ≤ 120 * n ∧ 120 * n - 120 < b := by
  unfold needN; rw [if_neg (by omega)]; omega
/-- the document's way: are these pages of a device's heap, each once? -/
def okB (np : Nat) : List Int → List Int → Bool
  | _, [] => true
  | pre, a :: l => decide (18 ≤ a) && decide (a < np) && !hasB pre a && okB np (pre ++ [a]) l
def laidB (A : List Int) (kind bytes : Int) (np : Nat) : Bool := decide (1 ≤ bytes) && decide ((A.length : Int) = needN bytes) && (decide (kind = 3) || decide (kind = 4)) && okB np [] A
theorem okB_step (np : Nat) (A : List Int) (k : Nat) (h : k < A.length) : okB np (A.take k) (A.drop k) = (decide (18 ≤ A[k]) && decide (A[k] < np) && !hasB (A.take k) A[k] && okB np (A.take (k + 1)) (A.drop (k + 1))) := by
  rw [List.drop_eq_getElem_cons h, okB, List.take_succ_eq_append_getElem h]
theorem okB_eq {np : Nat} (h : np ≤ 256) : ∀ (A pre : List Int), okA np pre A = okB np pre A
  | [], _ => rfl
  | a :: l, pre => by
    rw [okA, okB, okB_eq h l]
    by_cases h1 : 18 ≤ a
    · by_cases h2 : a < np
      · unfold markB
        rw [decide_eq_true (show 0 ≤ a by omega), decide_eq_true (show a < 256 by omega)]; rfl
      · rw [decide_eq_false h2, Bool.and_false, Bool.false_and, Bool.false_and, Bool.false_and]; rfl
    · rw [decide_eq_false h1]; simp
theorem laidB_eq {np : Nat} (h : np ≤ 256) (A : List Int) (kind bytes : Int) : mayB A kind bytes np = laidB A kind bytes np := by
  unfold mayB laidB; rw [okB_eq h]
set_option maxHeartbeats 4000000 in
set_option maxRecDepth 100000 in
theorem rlaidG_any (A : List Int) (px cx ax : Option Addr) (np pc nc cc ac : Nat) (z : Int) (o : Bool) (kind bytes : Int) (w : World) (hA : Ints w (.slice ax A.length ac) A) (hb1 : -9223372036854775808 ≤ bytes) (hb2 : bytes ≤ 9223372036854775807) (h1000 : A.length ≤ 1000) (r : Bool) (hr : laidB A kind bytes np = r) :
    Calls Try.prog 39 #[.agg #[.slice px np pc, .slice cx nc cc, .int .i64 z, .bool o], .slice ax A.length ac, .int .i64 kind, .int .i64 bytes] w fun e w' => e = .returned (.bool r) ∧ Below w.heap.size w w' := by
  have HA := Lib.hid hA
  have hA0 := HA
  have hln : (A.length : Int) ≤ 1000 := by omega
  obtain ⟨q0, hq0⟩ : ∃ q, (decide (1 ≤ bytes) && decide ((A.length : Int) = needN bytes) && (decide (kind = 3) || decide (kind = 4))) = q := ⟨_, rfl⟩
  have hr2 : r = (q0 && okB np [] A) := by rw [← hr, ← hq0]; rfl
  have HR := Lib.hid hr2
  have HQ0 := Lib.hid hq0
  clear hA hr hr2 hq0
  have HB := Lib.hid (Below.refl w.heap.size w)
  go_enter Try.func39, Try.ntmps39
  go_upto_region 1 with (first
    | (refine Agg.allocRow 46 #[.slice px np pc, .slice cx nc cc, .int .i64 z, .bool o] rfl rfl (by kernel_rfl) ?_; simp only [Act.put, List.setIfInBounds_toArray, List.set_cons_succ, List.set_cons_zero])
    | (refine Agg.gStoreNew 4 [.slice px np pc, .slice cx nc cc, .int .i64 z, .bool o] rfl rfl rfl rfl rfl rfl (by decide +kernel) rfl rfl rfl ?_; simp only [Act.put]))
  refine Agg.wp_at fun w1 hw1 => ?_
  have hb : Below w.heap.size w w1 := by rw [hw1.out]; repeat (first | exact Below.refl _ _ | refine Agg.bel_drew ?_ | refine Agg.bel_alloc ?_ _)
  replace HB := Lib.hid (HB.out.trans (hb.mono HB.out.size))
  replace HA := Lib.hid (HA.out.keep hb)
  clear hb
  have HD : Hid (Blk w1 w.heap.size 46 [.slice px np pc, .slice cx nc cc, .int .i64 z, .bool o]) := by show Blk _ _ _ _; rw [hw1.out]; exact Blk.new w 46 #[.slice px np pc, .slice cx nc cc, .int .i64 z, .bool o]
  clear hw1
  obtain ⟨gd, hgd⟩ : ∃ n, w.heap.size = n := ⟨_, rfl⟩
  rw [hgd] at HD
  rw [show (Value.pointer (some ⟨w.heap.size, 0, none⟩)) = .pointer (some ⟨gd, 0, none⟩) by rw [hgd]]
  clear hgd
  obtain ⟨wZ, hwZ⟩ : ∃ x, x = w1 := ⟨_, rfl⟩
  subst hwZ
  go_cut [35] from 11 to 35 (fun s wx => s = .bool (!q0) ∧ Below w.heap.size w wx ∧ Blk wx gd 46 [.slice px np pc, .slice cx nc cc, .int .i64 z, .bool o])
  case first =>
    have hn0 : (0 : Int) ≤ A.length := by omega
    have HQ1 := HQ0
    by_cases h1 : bytes < 1
    · have HQX : Hid (q0 = false) := Lib.hid (by rw [← HQ0.out, decide_eq_false (by omega)]; rfl)
      refine Agg.listR 25 (by kernel_rfl) ?_
      simp only [List.take_succ_cons, List.take_zero, List.drop_succ_cons, List.drop_zero]
      refine Agg.chMove rfl rfl rfl rfl ?_
      refine Agg.chLt true (decide_eq_true h1) rfl rfl rfl rfl rfl ?_
      refine Agg.chMove rfl rfl rfl rfl ?_
      refine Agg.chSkip rfl rfl ?_
      refine Agg.chSkip rfl rfl ?_
      refine Agg.chSkip rfl rfl ?_
      refine Agg.chSkip rfl rfl ?_
      refine Agg.chSkip rfl rfl ?_
      refine Agg.chPick rfl rfl rfl rfl rfl ?_
      refine Agg.chMove rfl rfl rfl rfl ?_
      refine Agg.chSkip rfl rfl ?_
      refine Agg.chSkip rfl rfl ?_
      refine Agg.chSkip rfl rfl ?_
      refine Agg.chSkip rfl rfl ?_
      refine Agg.chSkip rfl rfl ?_
      refine Agg.chSkip rfl rfl ?_
      refine Agg.chPick rfl rfl rfl rfl rfl ?_
      refine Agg.chMove rfl rfl rfl rfl ?_
      refine Agg.chSkip rfl rfl ?_
      refine Agg.chSkip rfl rfl ?_
      refine Agg.chSkip rfl rfl ?_
      refine Agg.chSkip rfl rfl ?_
      refine Agg.chSkip rfl rfl ?_
      refine Agg.chSkip rfl rfl ?_
      refine Agg.chPick rfl rfl rfl rfl rfl ?_
      refine Agg.chEnd ?_
      intro vs w2 hb _
      show Exit.then _ _ Exit.normal _ _
      simp only [List.reverse, List.reverseAux, Agg.fill, List.set_cons_succ, List.set_cons_zero]
      replace HB := Lib.hid (HB.out.trans (hb.mono HB.out.size))
      replace HA := Lib.hid (HA.out.keep hb)
      replace HD := Lib.hid (HD.out.keep hb)
      clear hb
      go_wp2_with fail
      go_meet
      exact ⟨by rw [HQX.out]; rfl, HB.out, HD.out⟩
    · have hni := needN_iff (n := A.length) (b := bytes) (by omega)
      by_cases h2 : bytes > 120 * (A.length : Int)
      · have HQX : Hid (q0 = false) := Lib.hid (by rw [← HQ0.out, decide_eq_false (show ¬ (A.length : Int) = needN bytes by rw [hni]; omega), Bool.and_false]; rfl)
        clear hni
        refine Agg.listR 25 (by kernel_rfl) ?_
        simp only [List.take_succ_cons, List.take_zero, List.drop_succ_cons, List.drop_zero]
        refine Agg.chMove rfl rfl rfl rfl ?_
        refine Agg.chLt false (decide_eq_false h1) rfl rfl rfl rfl rfl ?_
        refine Agg.chMove rfl rfl rfl rfl ?_
        refine Agg.chMove rfl rfl rfl rfl ?_
        refine Agg.chMove rfl rfl rfl rfl ?_
        refine Agg.chLen Try.underlying22 rfl rfl rfl rfl ?_
        refine Agg.chAr64 rfl rfl rfl rfl (by omega) (by omega) rfl rfl ?_
        refine Agg.chGt true (decide_eq_true h2) rfl rfl rfl rfl rfl ?_
        refine Agg.chPick rfl rfl rfl rfl rfl ?_
        refine Agg.chMove rfl rfl rfl rfl ?_
        refine Agg.chSkip rfl rfl ?_
        refine Agg.chSkip rfl rfl ?_
        refine Agg.chSkip rfl rfl ?_
        refine Agg.chSkip rfl rfl ?_
        refine Agg.chSkip rfl rfl ?_
        refine Agg.chSkip rfl rfl ?_
        refine Agg.chPick rfl rfl rfl rfl rfl ?_
        refine Agg.chMove rfl rfl rfl rfl ?_
        refine Agg.chSkip rfl rfl ?_
        refine Agg.chSkip rfl rfl ?_
        refine Agg.chSkip rfl rfl ?_
        refine Agg.chSkip rfl rfl ?_
        refine Agg.chSkip rfl rfl ?_
        refine Agg.chSkip rfl rfl ?_
        refine Agg.chPick rfl rfl rfl rfl rfl ?_
        refine Agg.chEnd ?_
        intro vs w3 hb _
        show Exit.then _ _ Exit.normal _ _
        simp only [List.reverse, List.reverseAux, Agg.fill, List.set_cons_succ, List.set_cons_zero]
        replace HB := Lib.hid (HB.out.trans (hb.mono HB.out.size))
        replace HA := Lib.hid (HA.out.keep hb)
        replace HD := Lib.hid (HD.out.keep hb)
        clear hb
        go_wp2_with fail
        go_meet
        exact ⟨by rw [HQX.out]; rfl, HB.out, HD.out⟩
      · have _u := h2
        by_cases h3 : bytes ≤ 120 * (A.length : Int) - 120
        · have HQX : Hid (q0 = false) := Lib.hid (by rw [← HQ0.out, decide_eq_false (show ¬ (A.length : Int) = needN bytes by rw [hni]; omega), Bool.and_false]; rfl)
          clear hni
          refine Agg.listR 25 (by kernel_rfl) ?_
          simp only [List.take_succ_cons, List.take_zero, List.drop_succ_cons, List.drop_zero]
          refine Agg.chMove rfl rfl rfl rfl ?_
          refine Agg.chLt false (decide_eq_false h1) rfl rfl rfl rfl rfl ?_
          refine Agg.chMove rfl rfl rfl rfl ?_
          refine Agg.chMove rfl rfl rfl rfl ?_
          refine Agg.chMove rfl rfl rfl rfl ?_
          refine Agg.chLen Try.underlying22 rfl rfl rfl rfl ?_
          refine Agg.chAr64 rfl rfl rfl rfl (by omega) (by omega) rfl rfl ?_
          refine Agg.chGt false (decide_eq_false h2) rfl rfl rfl rfl rfl ?_
          refine Agg.chPick rfl rfl rfl rfl rfl ?_
          refine Agg.chMove rfl rfl rfl rfl ?_
          refine Agg.chMove rfl rfl rfl rfl ?_
          refine Agg.chMove rfl rfl rfl rfl ?_
          refine Agg.chLen Try.underlying22 rfl rfl rfl rfl ?_
          refine Agg.chAr64 rfl rfl rfl rfl (by omega) (by omega) rfl rfl ?_
          refine Agg.chAr64 rfl rfl rfl rfl (by omega) (by omega) rfl rfl ?_
          refine Agg.chLe true (decide_eq_true h3) rfl rfl rfl rfl rfl ?_
          refine Agg.chPick rfl rfl rfl rfl rfl ?_
          refine Agg.chMove rfl rfl rfl rfl ?_
          refine Agg.chSkip rfl rfl ?_
          refine Agg.chSkip rfl rfl ?_
          refine Agg.chSkip rfl rfl ?_
          refine Agg.chSkip rfl rfl ?_
          refine Agg.chSkip rfl rfl ?_
          refine Agg.chSkip rfl rfl ?_
          refine Agg.chPick rfl rfl rfl rfl rfl ?_
          refine Agg.chEnd ?_
          intro vs w4 hb _
          show Exit.then _ _ Exit.normal _ _
          simp only [List.reverse, List.reverseAux, Agg.fill, List.set_cons_succ, List.set_cons_zero]
          replace HB := Lib.hid (HB.out.trans (hb.mono HB.out.size))
          replace HA := Lib.hid (HA.out.keep hb)
          replace HD := Lib.hid (HD.out.keep hb)
          clear hb
          go_wp2_with fail
          go_meet
          exact ⟨by rw [HQX.out]; rfl, HB.out, HD.out⟩
        · have hnt : (A.length : Int) = needN bytes := hni.2 (by omega)
          have HNT := Lib.hid hnt
          clear hni hnt
          by_cases h4 : kind = 3
          · have HQX : Hid (q0 = true) := Lib.hid (by rw [← HQ0.out, decide_eq_true (show 1 ≤ bytes by omega), decide_eq_true HNT.out, decide_eq_true h4]; rfl)
            refine Agg.listR 25 (by kernel_rfl) ?_
            simp only [List.take_succ_cons, List.take_zero, List.drop_succ_cons, List.drop_zero]
            refine Agg.chMove rfl rfl rfl rfl ?_
            refine Agg.chLt false (decide_eq_false h1) rfl rfl rfl rfl rfl ?_
            refine Agg.chMove rfl rfl rfl rfl ?_
            refine Agg.chMove rfl rfl rfl rfl ?_
            refine Agg.chMove rfl rfl rfl rfl ?_
            refine Agg.chLen Try.underlying22 rfl rfl rfl rfl ?_
            refine Agg.chAr64 rfl rfl rfl rfl (by omega) (by omega) rfl rfl ?_
            refine Agg.chGt false (decide_eq_false h2) rfl rfl rfl rfl rfl ?_
            refine Agg.chPick rfl rfl rfl rfl rfl ?_
            refine Agg.chMove rfl rfl rfl rfl ?_
            refine Agg.chMove rfl rfl rfl rfl ?_
            refine Agg.chMove rfl rfl rfl rfl ?_
            refine Agg.chLen Try.underlying22 rfl rfl rfl rfl ?_
            refine Agg.chAr64 rfl rfl rfl rfl (by omega) (by omega) rfl rfl ?_
            refine Agg.chAr64 rfl rfl rfl rfl (by omega) (by omega) rfl rfl ?_
            refine Agg.chLe false (decide_eq_false h3) rfl rfl rfl rfl rfl ?_
            refine Agg.chPick rfl rfl rfl rfl rfl ?_
            refine Agg.chMove rfl rfl rfl rfl ?_
            refine Agg.chMove rfl rfl rfl rfl ?_
            refine Agg.chNe false (by simp [h4]) rfl rfl rfl rfl rfl ?_
            refine Agg.chMove rfl rfl rfl rfl ?_
            refine Agg.chSkip rfl rfl ?_
            refine Agg.chSkip rfl rfl ?_
            refine Agg.chPick rfl rfl rfl rfl rfl ?_
            refine Agg.chPick rfl rfl rfl rfl rfl ?_
            refine Agg.chEnd ?_
            intro vs w5 hb _
            show Exit.then _ _ Exit.normal _ _
            simp only [List.reverse, List.reverseAux, Agg.fill, List.set_cons_succ, List.set_cons_zero]
            replace HB := Lib.hid (HB.out.trans (hb.mono HB.out.size))
            replace HA := Lib.hid (HA.out.keep hb)
            replace HD := Lib.hid (HD.out.keep hb)
            clear hb
            clear h4
            go_wp2_with fail
            go_meet
            exact ⟨by rw [HQX.out]; rfl, HB.out, HD.out⟩
          · have _v := h4
            by_cases h5 : kind = 4
            · have HQX : Hid (q0 = true) := Lib.hid (by rw [← HQ0.out, decide_eq_true (show 1 ≤ bytes by omega), decide_eq_true HNT.out, decide_eq_true h5, Bool.or_true]; rfl)
              refine Agg.listR 25 (by kernel_rfl) ?_
              simp only [List.take_succ_cons, List.take_zero, List.drop_succ_cons, List.drop_zero]
              refine Agg.chMove rfl rfl rfl rfl ?_
              refine Agg.chLt false (decide_eq_false h1) rfl rfl rfl rfl rfl ?_
              refine Agg.chMove rfl rfl rfl rfl ?_
              refine Agg.chMove rfl rfl rfl rfl ?_
              refine Agg.chMove rfl rfl rfl rfl ?_
              refine Agg.chLen Try.underlying22 rfl rfl rfl rfl ?_
              refine Agg.chAr64 rfl rfl rfl rfl (by omega) (by omega) rfl rfl ?_
              refine Agg.chGt false (decide_eq_false h2) rfl rfl rfl rfl rfl ?_
              refine Agg.chPick rfl rfl rfl rfl rfl ?_
              refine Agg.chMove rfl rfl rfl rfl ?_
              refine Agg.chMove rfl rfl rfl rfl ?_
              refine Agg.chMove rfl rfl rfl rfl ?_
              refine Agg.chLen Try.underlying22 rfl rfl rfl rfl ?_
              refine Agg.chAr64 rfl rfl rfl rfl (by omega) (by omega) rfl rfl ?_
              refine Agg.chAr64 rfl rfl rfl rfl (by omega) (by omega) rfl rfl ?_
              refine Agg.chLe false (decide_eq_false h3) rfl rfl rfl rfl rfl ?_
              refine Agg.chPick rfl rfl rfl rfl rfl ?_
              refine Agg.chMove rfl rfl rfl rfl ?_
              refine Agg.chMove rfl rfl rfl rfl ?_
              refine Agg.chNe true (bne_iff_ne.2 h4) rfl rfl rfl rfl rfl ?_
              refine Agg.chMove rfl rfl rfl rfl ?_
              refine Agg.chMove rfl rfl rfl rfl ?_
              refine Agg.chNe false (by simp [h5]) rfl rfl rfl rfl rfl ?_
              refine Agg.chPick rfl rfl rfl rfl rfl ?_
              refine Agg.chPick rfl rfl rfl rfl rfl ?_
              refine Agg.chEnd ?_
              intro vs w6 hb _
              show Exit.then _ _ Exit.normal _ _
              simp only [List.reverse, List.reverseAux, Agg.fill, List.set_cons_succ, List.set_cons_zero]
              replace HB := Lib.hid (HB.out.trans (hb.mono HB.out.size))
              replace HA := Lib.hid (HA.out.keep hb)
              replace HD := Lib.hid (HD.out.keep hb)
              clear hb
              clear h5
              go_wp2_with fail
              go_meet
              exact ⟨by rw [HQX.out]; rfl, HB.out, HD.out⟩
            · have HQX : Hid (q0 = false) := Lib.hid (by rw [← HQ0.out, decide_eq_false h4, decide_eq_false h5, Bool.or_false, Bool.and_false])
              refine Agg.listR 25 (by kernel_rfl) ?_
              simp only [List.take_succ_cons, List.take_zero, List.drop_succ_cons, List.drop_zero]
              refine Agg.chMove rfl rfl rfl rfl ?_
              refine Agg.chLt false (decide_eq_false h1) rfl rfl rfl rfl rfl ?_
              refine Agg.chMove rfl rfl rfl rfl ?_
              refine Agg.chMove rfl rfl rfl rfl ?_
              refine Agg.chMove rfl rfl rfl rfl ?_
              refine Agg.chLen Try.underlying22 rfl rfl rfl rfl ?_
              refine Agg.chAr64 rfl rfl rfl rfl (by omega) (by omega) rfl rfl ?_
              refine Agg.chGt false (decide_eq_false h2) rfl rfl rfl rfl rfl ?_
              refine Agg.chPick rfl rfl rfl rfl rfl ?_
              refine Agg.chMove rfl rfl rfl rfl ?_
              refine Agg.chMove rfl rfl rfl rfl ?_
              refine Agg.chMove rfl rfl rfl rfl ?_
              refine Agg.chLen Try.underlying22 rfl rfl rfl rfl ?_
              refine Agg.chAr64 rfl rfl rfl rfl (by omega) (by omega) rfl rfl ?_
              refine Agg.chAr64 rfl rfl rfl rfl (by omega) (by omega) rfl rfl ?_
              refine Agg.chLe false (decide_eq_false h3) rfl rfl rfl rfl rfl ?_
              refine Agg.chPick rfl rfl rfl rfl rfl ?_
              refine Agg.chMove rfl rfl rfl rfl ?_
              refine Agg.chMove rfl rfl rfl rfl ?_
              refine Agg.chNe true (bne_iff_ne.2 h4) rfl rfl rfl rfl rfl ?_
              refine Agg.chMove rfl rfl rfl rfl ?_
              refine Agg.chMove rfl rfl rfl rfl ?_
              refine Agg.chNe true (bne_iff_ne.2 h5) rfl rfl rfl rfl rfl ?_
              refine Agg.chPick rfl rfl rfl rfl rfl ?_
              refine Agg.chPick rfl rfl rfl rfl rfl ?_
              refine Agg.chEnd ?_
              intro vs w7 hb _
              show Exit.then _ _ Exit.normal _ _
              simp only [List.reverse, List.reverseAux, Agg.fill, List.set_cons_succ, List.set_cons_zero]
              replace HB := Lib.hid (HB.out.trans (hb.mono HB.out.size))
              replace HA := Lib.hid (HA.out.keep hb)
              replace HD := Lib.hid (HD.out.keep hb)
              clear hb
              go_wp2_with fail
              go_meet
              exact ⟨by rw [HQX.out]; rfl, HB.out, HD.out⟩
  case rest =>
    obtain ⟨rfl, hwx, hdx⟩ := hcut
    have HAc := Lib.hid (SlR.keep hA0.out hwx)
    have HDc := Lib.hid hdx
    have HBc := Lib.hid hwx
    clear hwx hdx HQ0 HD HA HB
    cases q0
    · have HRF : Hid (r = false) := Lib.hid (by rw [HR.out]; rfl)
      rw [show (!false) = true from rfl]
      go_wp2_with fail
      go_ret
      exact ⟨by rw [HRF.out]; rfl, HBc.out⟩
    · have HRT : Hid (r = okB np [] A) := Lib.hid (by rw [HR.out, Bool.true_and])
      rw [show (!true) = false from rfl]
      clear HR
      have HDZ := HDc
      have HBZ := HBc
      clear HAc HDc HBc
      obtain ⟨wY, hwY⟩ : ∃ x, x = wc := ⟨_, rfl⟩
      subst hwY
      go_wp2_with fail
      go_loopw [38] (fun ix wr => ∃ (k : Nat), k ≤ A.length ∧ ix = .int .i64 k ∧ okB np (A.take k) (A.drop k) = r ∧ Below wY.heap.size wY wr) (fun ix _ => A.length - (intOf ix).toNat)
      case atStart => exact ⟨0, by omega, rfl, HRT.out.symm, Below.refl _ _⟩
      case round =>
        obtain ⟨k, hk, rfl, ho, hb⟩ := hrel
        have HO := Lib.hid ho
        have HD := Lib.hid (HDZ.out.keep hb)
        have HB := Lib.hid (HBZ.out.trans (hb.mono HBZ.out.size))
        have HFY : Hid (From wY wr) := Lib.hid hb
        have HA := Lib.hid (SlR.keep hA0.out HB.out)
        clear ho hb
        obtain ⟨wA, hwA⟩ : ∃ x, x = wr := ⟨_, rfl⟩
        subst hwA
        by_cases hlt : k < A.length
        · obtain ⟨b, of, cap', hve, _, _, _, _⟩ := SlR.pos HA.out (by decide) (by omega)
          simp only [Value.slice.injEq, true_and] at hve
          obtain ⟨rfl, rfl⟩ := hve
          obtain ⟨_, _, eac, hac1, _⟩ := SlR.shape HA.out
          cases eac
          have hkac : (k : Int) ≤ ac := by omega
          have hcell := ints_at HA.out hlt
          have hst := okB_step np A k hlt
          rw [HO.out] at hst
          obtain ⟨a, ha⟩ : ∃ y, A[k] = y := ⟨_, rfl⟩
          rw [ha] at hcell hst
          have HST := Lib.hid hst
          clear hst ha HO
          have HTK := Lib.hid (ints_pre HA.out k (by omega))
          have htl : (A.take k).length = k := by rw [List.length_take]; omega
          have k0 := HD.out.cell 0
          simp only [List.getElem?_cons_zero] at k0
          by_cases h1 : a < 18
          · have HRF : Hid (r = false) := Lib.hid (by rw [HST.out, decide_eq_false (by omega)]; rfl)
            go_wp2_with fail
            go_ret
            exact ⟨by first | rfl | (rw [HRF.out]; rfl), HB.out⟩
          · by_cases h2 : a ≥ np
            · have HRF : Hid (r = false) := Lib.hid (by rw [HST.out, decide_eq_false (show ¬ a < np by omega), Bool.and_false]; rfl)
              go_wp2_with fail
              go_ret
              exact ⟨by first | rfl | (rw [HRF.out]; rfl), HB.out⟩
            · obtain ⟨mq, hmq⟩ : ∃ q, hasB (A.take k) a = q := ⟨_, rfl⟩
              have HMQ := Lib.hid hmq
              have HMB : Hid ((!hasB (A.take k) a) = !mq) := Lib.hid (by rw [hmq])
              clear hmq
              go_wp2_with fail
              refine (rhas_any (A.take k) _ a wA HTK.out mq HMQ.out).mono ?_
              rintro e w41 ⟨rfl, hb⟩
              replace HB := Lib.hid (HB.out.trans (hb.mono HB.out.size))
              replace HFY := Lib.hid (HFY.out.keep hb)
              clear hb
              cases mq
              · have HRN : Hid (okB np (A.take (k + 1)) (A.drop (k + 1)) = r) := Lib.hid (by rw [HST.out, HMB.out, decide_eq_true (by omega), decide_eq_true (show a < np by omega)]; rfl)
                go_wp2_with fail
                exact ⟨⟨k + 1, by omega, by go_num, HRN.out, HFY.out⟩, by simp [intOf]; omega⟩
              · have HRF : Hid (r = false) := Lib.hid (by rw [HST.out, HMB.out, Bool.not_true, Bool.and_false]; rfl)
                go_wp2_with fail
                go_ret
                exact ⟨by first | rfl | (rw [HRF.out]; rfl), HB.out⟩
        · obtain rfl : k = A.length := by omega
          have HRX : Hid (r = true) := Lib.hid (by rw [← HO.out, List.drop_length]; rfl)
          go_wp2_with fail
          go_ret
          exact ⟨by first | rfl | (rw [HRX.out]; rfl), HB.out⟩
theorem rlaid_any (A : List Int) (px cx ax : Option Addr) (np pc nc cc ac : Nat) (z : Int) (o : Bool) (kind bytes : Int) (w : World) (hA : Ints w (.slice ax A.length ac) A) (hb1 : -9223372036854775808 ≤ bytes) (hb2 : bytes ≤ 9223372036854775807) (hnp : np ≤ 256) (h1000 : A.length ≤ 1000) (r : Bool) (hr : mayB A kind bytes np = r) :
    Calls Try.prog 39 #[.agg #[.slice px np pc, .slice cx nc cc, .int .i64 z, .bool o], .slice ax A.length ac, .int .i64 kind, .int .i64 bytes] w fun e w' => e = .returned (.bool r) ∧ Below w.heap.size w w' :=
  rlaidG_any A px cx ax np pc nc cc ac z o kind bytes w hA hb1 hb2 h1000 r (by rw [← laidB_eq hnp]; exact hr)
end Go.Proofs.Ytgfmpkcgkjpgnaa
end
section
/-
  WHAT IS LEFT OF A SLICE, whatever its elements, wherever it lies. Over any program.
-/
namespace Agg
open Go Go.RowKit
theorem slR_rest {P : Program} {w : World} {t e : TypeId} {sz bytes : Nat} {z : Value} (T : TI P t e sz bytes z) (hsz : 0 < sz) {x : Option Addr} {n cap : Nat} {cs : List Value} (h : SlR w (.slice x n cap) sz n cs) (k : Nat) (hk : k ≤ n) :
    ∃ y c, (∀ w2, (Instr.sliceAt t (.slice x n cap) (some (.int .i64 (k : Int))) none none).run P w2 = .ok (.slice y (n - k) c) w2) ∧ SlR w (.slice y (n - k) c) sz (n - k) (cs.drop (k * sz)) := by
  obtain ⟨_, _, he, hc1, hcm⟩ := SlR.shape h
  cases he
  obtain ⟨i, hi, hz, hs, hb⟩ := T.info
  have hlen := h.1
  by_cases hn : n = 0
  · subst hn
    have hk0 : k = 0 := by omega
    subst hk0
    have hcs : cs = [] := List.eq_nil_of_length_eq_zero (by rw [hlen]; simp)
    subst hcs
    refine ⟨x, cap, fun w2 => ?_, by simpa using h⟩
    cases x with
    | none => simp [Instr.sliceAt, Instr.slice, Instr.sliceBounds, Instr.sliceBound, run_underlying T.ht, asIntOf, Go.sizeOf, typeInfo, hi]
    | some a =>
      by_cases hc : cap = 0
      · subst hc; simp [Instr.sliceAt, Instr.slice, Instr.sliceBounds, Instr.sliceBound, run_underlying T.ht, asIntOf, Go.sizeOf, typeInfo, hi]
      · simp [Instr.sliceAt, Instr.slice, Instr.sliceBounds, Instr.sliceBound, run_underlying T.ht, asIntOf, Go.sizeOf, typeInfo, hi, hc, Addr.add]
  · obtain ⟨b, o, cap', hve, _, _, hcp, _⟩ := SlR.pos h hsz (by omega)
    simp only [Value.slice.injEq, true_and] at hve
    obtain ⟨rfl, rfl⟩ := hve
    have hdl : (cs.drop (k * sz)).length = (n - k) * sz := by rw [List.length_drop, hlen, Nat.sub_mul]
    by_cases hc : k < cap
    · refine ⟨_, _, fun w2 => run_slice_from T b o n cap k hk hc w2, hdl, .inr ⟨_, cap - k, rfl, by omega, by omega, fun j u hj => ?_⟩⟩
      rw [List.getElem?_drop] at hj
      have h2 := hcp _ _ hj
      rw [add_none, ← h2]
      congr 2; omega
    · have hkc : k = cap := by omega
      have hrc : n = k := by omega
      subst hkc
      subst hrc
      refine ⟨some ⟨b, o, none⟩, 0, fun w2 => ?_, hdl, .inr ⟨_, 0, by rw [Nat.sub_self], by omega, Nat.zero_le _, fun j u hj => ?_⟩⟩
      · simp [Instr.sliceAt, Instr.slice, Instr.sliceBounds, Instr.sliceBound, run_underlying T.ht, asIntOf, Go.sizeOf, typeInfo, hi]
      · have := (List.getElem?_eq_some_iff.1 hj).1
        rw [hdl] at this; simp at this
/-- .. and its head -/
theorem slR_head {w : World} {sz : Nat} {x : Option Addr} {n cap : Nat} {cs : List Value} (h : SlR w (.slice x n cap) sz n cs) (k : Nat) (hk : k ≤ n) : SlR w (.slice x k cap) sz k (cs.take (k * sz)) := by
  obtain ⟨hl, h2⟩ := h
  have hlen : (cs.take (k * sz)).length = k * sz := by rw [List.length_take, hl]; exact Nat.min_eq_left (Nat.mul_le_mul_right _ hk)
  refine ⟨hlen, ?_⟩
  rcases h2 with ⟨h3, h4⟩ | ⟨p, cap', hv, h3, h4, h5⟩
  · subst h4
    obtain rfl : k = 0 := by omega
    exact .inl ⟨h3, rfl⟩
  · simp only [Value.slice.injEq] at hv
    obtain ⟨rfl, _, rfl⟩ := hv
    refine .inr ⟨p, cap, rfl, by omega, h4, fun j u hj => h5 j u ?_⟩
    have hj2 := (List.getElem?_eq_some_iff.1 hj).1
    rw [hlen] at hj2
    rwa [List.getElem?_take, if_pos hj2] at hj
theorem gSliceFrom {P : Program} {w : World} {o : Oper} {Q : Exit → Act → World → Prop} {ops : Array Oper} {rest : List Oper} {a : Act} {t : TypeId} {x y : Operand} {u v : Value} (r : Value) (hg : o.guard = none) (ho : o.op = .slice t x (some y) none none) (hx : a.eval x = u) (hy : a.eval y = v) (hr : ∀ w2, (Instr.sliceAt t u (some v) none none).run P w2 = .ok r w2)
    (h : wpList P ops Q rest (a.put o.dst r) w) : wpList P ops Q (o :: rest) a w := by
  refine Agg.run hg r w ?_ h
  simp only [execOp, ho, Option.map_some, Option.map_none, hx, hy, hr, Sem.run_bind, Result.andThen_ok, Sem.run_pure]
theorem gSliceUp {P : Program} {w : World} {o : Oper} {Q : Exit → Act → World → Prop} {ops : Array Oper} {rest : List Oper} {a : Act} {t : TypeId} {x y : Operand} {u v : Value} (r : Value) (hg : o.guard = none) (ho : o.op = .slice t x none (some y) none) (hx : a.eval x = u) (hy : a.eval y = v) (hr : ∀ w2, (Instr.sliceAt t u none (some v) none).run P w2 = .ok r w2)
    (h : wpList P ops Q rest (a.put o.dst r) w) : wpList P ops Q (o :: rest) a w := by
  refine Agg.run hg r w ?_ h
  simp only [execOp, ho, Option.map_some, Option.map_none, hx, hy, hr, Sem.run_bind, Result.andThen_ok, Sem.run_pure]
/-- a literal of one row -/
theorem gLit1 {P : Program} {w : World} {o : Oper} {Q : Exit → Act → World → Prop} {ops : Array Oper} {rest : List Oper} {a : Act} {t e : TypeId} {x : Operand} (cs : List Value) (hg : o.guard = none) (ho : o.op = .buildSlice t 1 #[(0, x)]) (hx : a.eval x = .agg cs.toArray)
    (hr : ∀ w2, (Instr.buildSlice t 1 #[(0, .agg cs.toArray)]).run P w2 = .ok (.slice (some ⟨w2.heap.size, 0, none⟩) 1 1) (w2.alloc (.cells cs.toArray e)))
    (h : wpList P ops Q rest (a.put o.dst (.slice (some ⟨w.heap.size, 0, none⟩) 1 1)) (w.alloc (.cells cs.toArray e))) : wpList P ops Q (o :: rest) a w := by
  refine run hg _ _ ?_ h
  simp [execOp, ho, hx, hr]
/-- a call at a region's end -/
theorem tCall {P : Program} {w : World} {o : Oper} {Q : Exit → Act → World → Prop} {ops : Array Oper} {rest : List Oper} {a : Act} {f : FuncId} {fn : Func} (hf : P.funcs[f]? = some fn) (hbody : fn.body.isNone = false) (hname : (fn.name == "runtime.NumGoroutine") = false)
    {args : List Operand} {ts : Array TypeId} {vs : List Value} (hg : o.guard = none) (ho : o.op = .call { callee := .value (.func f), args := args.toArray, argTypes := ts }) (ha : args.map a.eval = vs)
    (hc : Calls P f vs.toArray w fun e w' => ∃ v, e = .returned v ∧ wpList P ops Q rest (a.put o.dst v) w') : wpList P ops Q (o :: rest) a w :=
  wpList_plain hg fun _ hK => by
    have hr : (execOp a.eval o).run P w = .ok (.enter f vs.toArray) w := by
      have n1 : ¬ fn.name = "runtime.NumGoroutine" := by simpa using hname
      have n2 : ¬ fn.body = none := by intro e; rw [e] at hbody; cases hbody
      rw [← ha]
      simp [execOp, ho, resolve, Act.eval, invoke, callFunc, hf, n1, n2, Deferred.ofValue]
    unfold Oper.wp
    rw [hr]
    refine hc.mono ?_
    rintro e w' ⟨v, rfl, h⟩
    exact hK _ _ h
/-- a struct of which but one field is told -/
theorem gBuildA {P : Program} {w : World} {o : Oper} {Q : Exit → Act → World → Prop} {ops : Array Oper} {rest : List Oper} {a : Act} {t : TypeId} {k : Nat} {x : Operand} {u : Value} (v : Value) (hg : o.guard = none) (ho : o.op = .build t #[(k, x)]) (hx : a.eval x = u) (hr : ∀ w2, (Instr.build t #[(k, u)]).run P w2 = .ok v w2)
    (h : wpList P ops Q rest (a.put o.dst v) w) : wpList P ops Q (o :: rest) a w := by
  refine run hg v w ?_ h
  simp [execOp, ho, hx, hr]
end Agg
end
