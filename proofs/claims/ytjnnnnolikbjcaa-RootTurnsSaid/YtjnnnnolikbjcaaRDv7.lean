/-
  A SLICE THAT CAN BE READ AS DATA, whatever its elements are: their list. Over any program.
-/
import Derived.Test.YtjnnnnolikbjcaaRows
import Derived.WalkKit
import Derived.ProofKit
import Derived.OpenShut
import Derived.Below
import Derived.StillTailTactics
import Derived.Lib.Hide
import Derived.BigQuiet
import Derived.Deep.QuietTactic
import Derived.WalkMore
import Derived.Maps.AppendAt
import Derived.Deep.Cut
import Derived.Deep.DeepCutAuto
import Derived.Test.YtjnnnnolikbjcaaGood
import Derived.Test.YtjnnnnolikbjcaaCopy
import Derived.Test.YtjnnnnolikbjcaaAgg2
import Derived.Test.YtjnnnnolikbjcaaKn
import Derived.Test.YtjnnnnolikbjcaaRow
section
namespace Agg
open Go Go.RowKit

theorem flatMap_get {α : Type} (enc : α → List Value) (sz : Nat) (henc : ∀ x, (enc x).length = sz) : ∀ (l : List α) (i : Nat) (u : Value), (l.flatMap enc)[i]? = some u → ∃ (k j : Nat) (x : α), l[k]? = some x ∧ j < sz ∧ i = k * sz + j ∧ (enc x)[j]? = some u
  | [], i, u, h => by simp at h
  | a :: l, i, u, h => by
    rw [List.flatMap_cons] at h
    by_cases hi : i < sz
    · rw [List.getElem?_append_left (by rw [henc]; exact hi)] at h
      exact ⟨0, i, a, rfl, hi, by omega, h⟩
    · rw [List.getElem?_append_right (by rw [henc]; omega), henc] at h
      obtain ⟨k, j, x, h1, h2, h3, h4⟩ := flatMap_get enc sz henc l _ u h
      exact ⟨k + 1, j, x, h1, h2, by rw [Nat.succ_mul]; omega, h4⟩
theorem flatMap_len {α : Type} (enc : α → List Value) (sz : Nat) (henc : ∀ x, (enc x).length = sz) (l : List α) : (l.flatMap enc).length = l.length * sz := by
  induction l with
  | nil => simp
  | cons a l ih => rw [List.flatMap_cons, List.length_append, henc, ih, List.length_cons, Nat.succ_mul]; omega
theorem good_sl {P : Program} {w : World} {t e : TypeId} (ht : P.underlying t = some (.slice e)) {sz : Nat} (hc : P.cellsOf e = sz) {α : Type} (enc : α → List Value) (ok : α → Prop) (henc : ∀ x, (enc x).length = sz)
    (hopen : ∀ (fuel : Nat) (cs : List Value), Good P w fuel e cs → ∃ x, cs = enc x ∧ ok x) {fuel : Nat} {v : Value} (h : Good P w fuel t [v]) : ∃ l : List α, SlR w v sz l.length (l.flatMap enc) ∧ (∀ x ∈ l, ok x) ∧ l.length ≤ maxLen := by
  cases fuel with
  | zero => exact h.elim
  | succ n =>
    unfold Good at h
    rw [ht] at h
    rcases h with h | ⟨a, len, cap, h, hl, hm, hcs⟩
    · simp only [List.cons.injEq, and_true] at h
      subst h
      exact ⟨[], SlR.nil _ _, (fun x hx => by cases hx), Nat.zero_le _⟩
    · simp only [List.cons.injEq, and_true] at h
      subst h
      have key : ∀ i, i < len → ∃ x : α, ok x ∧ ∀ j, j < sz → w.cell? (a.add (i * sz + j)) = (enc x)[j]? := by
        intro i hi
        obtain ⟨cs', hcl, hat, hg⟩ := hcs i hi
        obtain ⟨x, rfl, hok⟩ := hopen n cs' hg
        rw [hc] at hat
        exact ⟨x, hok, hat⟩
      rcases Nat.eq_zero_or_pos len with h0 | h0
      · subst h0
        exact ⟨[], ⟨by simp, .inr ⟨a, cap, rfl, hl, hm, (fun i u hu => by simp at hu)⟩⟩, (fun x hx => by cases hx), Nat.zero_le _⟩
      · obtain ⟨x0, hx0, _⟩ := key 0 h0
        have hch : ∃ f : Nat → α, ∀ i, i < len → ok (f i) ∧ ∀ j, j < sz → w.cell? (a.add (i * sz + j)) = (enc (f i))[j]? :=
          ⟨fun i => if h : i < len then Classical.choose (key i h) else x0, fun i hi => by simp only [hi, dif_pos]; exact Classical.choose_spec (key i hi)⟩
        obtain ⟨f, hf⟩ := hch
        refine ⟨(List.range len).map f, ⟨by rw [flatMap_len enc sz henc], .inr ⟨a, cap, by simp, by simpa using hl, hm, fun i u hu => ?_⟩⟩, fun x hx => ?_, by simp; omega⟩
        · obtain ⟨k, j, x, h1, h2, rfl, h4⟩ := flatMap_get enc sz henc _ _ _ hu
          have hk : k < len := by have := (List.getElem?_eq_some_iff.1 h1).1; simpa using this
          rw [List.getElem?_map, List.getElem?_range hk] at h1
          simp only [Option.map_some, Option.some.injEq] at h1
          subst h1
          rw [(hf k hk).2 j h2]; exact h4
        · obtain ⟨i, hi, rfl⟩ := List.mem_map.1 hx
          exact (hf i (List.mem_range.1 hi)).1
/-- nothing that was at W is changed; kept over calls -/
def From (W w : World) : Prop := Below W.heap.size W w
theorem From.keep {W w w' : World} (h : From W w) (hb : Below w.heap.size w w') : From W w' := by
  have h' : Below W.heap.size W w := h
  exact h'.trans (hb.mono h'.size)
end Agg
end
section
/-
  DEVICES, in plain Lean; which pages there are.
-/
namespace Dv
open Go Go.RowKit Agg Pg

/-- a device: its pages, what waits for them, its fuse, whether its power is off -/
structure Dev where
  pages : List (List Sec)
  cache : List (Int × List Sec)
  fuse : Int
  off : Bool
def wrC (x : Int × List Sec) : List Value := .int .i64 x.1 :: blkC x.2
/-- pages in memory; writes in memory -/
abbrev Pgs (w : World) (v : Value) (l : List (List Sec)) : Prop := SlR w v 132 l.length (l.flatMap blkC)
abbrev Wrs (w : World) (v : Value) (l : List (Int × List Sec)) : Prop := SlR w v 133 l.length (l.flatMap wrC)
theorem wrC_length (x : Int × List Sec) (h : BOk x.2) : (wrC x).length = 133 := by rw [wrC, List.length_cons, bok_cells h]
/-- all blocks are whole -/
def DOk (d : Dev) : Prop := (∀ b ∈ d.pages, BOk b) ∧ (∀ x ∈ d.cache, BOk x.2)
def thereB (n : Nat) (k : Int) : Bool := decide (0 ≤ k) && decide (k < n)
/-- which devices may be -/
def rightD (d : Dev) : Bool := decide (24 ≤ d.pages.length) && decide (d.pages.length ≤ 256) && decide (-1 ≤ d.fuse) && decide (d.fuse ≤ 10000) && (!d.off || decide (d.fuse = -1)) && d.cache.all fun x => thereB d.pages.length x.1
end Dv
namespace Go.Proofs.Ytjnnnnolikbjcaa
open Go.ChangeShapes Go.WideShapes Go.ChangeAt Go.RowKit Agg Pg Dv

theorem fo_fo_Dev_0 : Agg.fieldOff Try.prog 30 0 = some 0 := by kernel_rfl
theorem fo_fo_Dev_1 : Agg.fieldOff Try.prog 30 1 = some 1 := by kernel_rfl
theorem fo_fo_Dev_2 : Agg.fieldOff Try.prog 30 2 = some 2 := by kernel_rfl
theorem fo_fo_Dev_3 : Agg.fieldOff Try.prog 30 3 = some 3 := by kernel_rfl
set_option maxHeartbeats 1000000 in
theorem there_any (x y : Option Addr) (n cap m cm : Nat) (z : Int) (q : Bool) (k : Int) (w : World) (hn : (n : Int) ≤ 9223372036854775807) (r : Bool) (hr : thereB n k = r) :
    Calls Try.prog 62 #[.agg #[.slice x n cap, .slice y m cm, .int .i64 z, .bool q], .int .i64 k] w fun e w' => e = .returned (.bool r) ∧ Below w.heap.size w w' := by
  have HR := Lib.hid hr
  clear hr
  have HB := Lib.hid (Below.refl w.heap.size w)
  go_enter Try.func62, Try.ntmps62
  by_cases h1 : k ≥ 0
  · by_cases h2 : k < n
    · have hr2 : r = true := by rw [← HR.out]; simp [thereB, h1, h2]
      subst hr2
      go_wp2_with fail
      go_ret
      exact ⟨rfl, bel_alloc HB.out _⟩
    · have hr2 : r = false := by rw [← HR.out]; simp only [thereB, Bool.and_eq_false_iff, decide_eq_false_iff_not]; omega
      subst hr2
      go_wp2_with fail
      go_ret
      exact ⟨rfl, bel_alloc HB.out _⟩
  · have hr2 : r = false := by rw [← HR.out]; simp only [thereB, Bool.and_eq_false_iff, decide_eq_false_iff_not]; omega
    subst hr2
    go_wp2_with fail
    go_ret
    exact ⟨rfl, bel_alloc HB.out _⟩
end Go.Proofs.Ytjnnnnolikbjcaa
end
section
/-
  DEVICES: Check, and the document's Right.
-/
namespace Go.Proofs.Ytjnnnnolikbjcaa
open Go.ChangeShapes Go.WideShapes Go.ChangeAt Go.RowKit Agg Pg Dv

theorem fo_fo_Wr_0 : Agg.fieldOff Try.prog 88 0 = some 0 := by kernel_rfl
theorem fo_fo_Wr_1 : Agg.fieldOff Try.prog 88 1 = some 1 := by kernel_rfl
/-- a write of noughts -/
def wr0 : List Value := .int .i64 0 :: blkC zeroB
theorem wr0_size : wr0.toArray.size = 133 := by decide +kernel
theorem wrC_one (x : Int × List Sec) : ∀ u ∈ wrC x, u.oneCell' = true := by
  intro u hu
  rcases List.mem_cons.1 hu with rfl | h
  · rfl
  · exact blkC_one _ u h
def headD (n : Nat) (z : Int) (q : Bool) : Bool := decide (24 ≤ n) && decide (n ≤ 256) && decide (-1 ≤ z) && decide (z ≤ 10000) && (!q || decide (z = -1))
def allD (n : Nat) (l : List (Int × List Sec)) : Bool := l.all fun x => thereB n x.1
theorem rightD_eq (d : Dev) : rightD d = (headD d.pages.length d.fuse d.off && allD d.pages.length d.cache) := rfl
theorem allD_succ (n : Nat) (l : List (Int × List Sec)) (k : Nat) (h : k < l.length) : allD n (l.take (k + 1)) = (allD n (l.take k) && thereB n l[k].1) := by
  unfold allD
  rw [List.take_succ_eq_append_getElem h, List.all_append]; simp
theorem allD_bad (n : Nat) (l : List (Int × List Sec)) (k : Nat) (h : k < l.length) (hb : thereB n l[k].1 = false) : allD n l = false := by
  unfold allD
  rw [List.all_eq_false]
  exact ⟨l[k], List.getElem_mem h, by simp [hb]⟩
set_option maxHeartbeats 4000000 in
set_option maxRecDepth 100000 in
theorem check_D (x y : Option Addr) (n cap cm : Nat) (l : List (Int × List Sec)) (z : Int) (q : Bool) (w : World) (hn : (n : Int) ≤ 9223372036854775807) (hl : ∀ x ∈ l, BOk x.2) (hv : Wrs w (.slice y l.length cm) l) (r : Int) (hr : (if headD n z q && allD n l then (0 : Int) else 260) = r) :
    Calls Try.prog 45 #[.agg #[.slice x n cap, .slice y l.length cm, .int .i64 z, .bool q]] w fun e w' => e = .returned (.int .i64 r) ∧ Below w.heap.size w w' := by
  have HR := Lib.hid hr
  have HV := Lib.hid hv
  have HW : Hid (∀ x ∈ l, (wrC x).length = 133) := Lib.hid (fun x hx => wrC_length x (hl x hx))
  have HN := Lib.hid hn
  obtain ⟨_, _, hve, _, hmx⟩ := SlR.shape hv
  simp only [Value.slice.injEq, true_and] at hve
  obtain ⟨rfl, rfl⟩ := hve
  unfold maxLen at hmx
  have HVW := HV
  clear hr hv hl hn
  have HB := Lib.hid (Below.refl w.heap.size w)
  go_enter Try.func45, Try.ntmps45
  go_upto_region 1 with (fail)
  refine Agg.wp_at fun w1 hw1 => ?_
  have hb : Below w.heap.size w w1 := by rw [hw1.out]; repeat (first | exact Below.refl _ _ | refine Agg.bel_drew ?_ | refine Agg.bel_alloc ?_ _)
  replace HB := Lib.hid (HB.out.trans (hb.mono HB.out.size))
  replace HV := Lib.hid (HV.out.keep hb)
  clear hb
  have H1 : Hid (Blk w1 w.heap.size 30 [.slice x n cap, .slice y l.length cm, .int .i64 z, .bool q]) := by show Blk _ _ _ _; rw [hw1.out]; exact Blk.new w 30 #[.slice x n cap, .slice y l.length cm, .int .i64 z, .bool q]
  clear hw1
  have xH1_0 := H1.out.cell 0
  have xH1_1 := H1.out.cell 1
  have xH1_2 := H1.out.cell 2
  have xH1_3 := H1.out.cell 3
  have lH1 := H1.out.lt
  simp only [List.getElem?_cons_zero, List.getElem?_cons_succ] at xH1_0 xH1_1 xH1_2 xH1_3
  go_cut [3] from 6 to 35 (fun v wx => v = .bool (headD n z q) ∧ wx = w1)
  case first =>
    by_cases h0 : (24 : Int) ≤ n
    · skip
      by_cases h1 : (n : Int) ≤ 256
      · skip
        by_cases h2 : -1 ≤ z
        · skip
          by_cases h3 : z ≤ 10000
          · skip
            cases q
            · have hh : headD n z false = true := by simp only [headD, Bool.and_eq_true, decide_eq_true_eq, Bool.not_false, Bool.true_or, and_true]; omega
              go_wp2_with fail
              go_meet
              exact ⟨congrArg Value.bool hh.symm, rfl⟩
            · by_cases h4 : z = -1
              · have hh : headD n z true = true := by simp only [headD, Bool.and_eq_true, decide_eq_true_eq, Bool.not_true, Bool.false_or]; omega
                have hz4 : (z == -1) = true := by simp [h4]
                go_wp2_with fail
                go_meet
                exact ⟨congrArg Value.bool hh.symm, rfl⟩
              · have hh : headD n z true = false := by simp [headD, h4]
                have hz4 : (z == -1) = false := by simp [h4]
                go_wp2_with fail
                go_meet
                exact ⟨congrArg Value.bool hh.symm, rfl⟩
          · have hh : headD n z q = false := by simp only [headD, Bool.and_eq_false_iff, decide_eq_false_iff_not]; omega
            go_wp2_with fail
            go_meet
            exact ⟨congrArg Value.bool hh.symm, rfl⟩
        · have hh : headD n z q = false := by simp only [headD, Bool.and_eq_false_iff, decide_eq_false_iff_not]; omega
          go_wp2_with fail
          go_meet
          exact ⟨congrArg Value.bool hh.symm, rfl⟩
      · have hh : headD n z q = false := by simp only [headD, Bool.and_eq_false_iff, decide_eq_false_iff_not]; omega
        go_wp2_with fail
        go_meet
        exact ⟨congrArg Value.bool hh.symm, rfl⟩
    · have hh : headD n z q = false := by simp only [headD, Bool.and_eq_false_iff, decide_eq_false_iff_not]; omega
      go_wp2_with fail
      go_meet
      exact ⟨congrArg Value.bool hh.symm, rfl⟩
  case rest =>
    obtain ⟨rfl, rfl⟩ := hcut
    obtain ⟨hq, hhq⟩ : ∃ h, headD n z q = h := ⟨_, rfl⟩
    rw [hhq] at HR ⊢
    clear hhq
    go_wp2_with fail
    go_loopw [39, 3] (fun i v wr => ∃ k : Nat, k ≤ l.length ∧ i = .int .i64 k ∧ v = .bool (hq && allD n (l.take k)) ∧ Below w.heap.size w wr ∧ Blk wr w.heap.size 30 [.slice x n cap, .slice y l.length cm, .int .i64 z, .bool q]) (fun i _ _ => l.length - (intOf i).toNat)
    case atStart => exact ⟨0, by omega, rfl, by simp [allD], HB.out, H1.out⟩
    case round =>
      obtain ⟨k, hk, rfl, rfl, hb, h1⟩ := hrel
      replace HB := Lib.hid hb
      replace H1 := Lib.hid h1
      replace HV := Lib.hid (HVW.out.keep hb)
      clear hb h1
      obtain ⟨c, hc⟩ : ∃ c, (hq && allD n (l.take k)) = c := ⟨_, rfl⟩
      rw [hc]
      have HC := Lib.hid hc
      clear hc
      by_cases hlt : k < l.length
      · obtain ⟨b, o, cap', hve, _, _, _, _⟩ := SlR.pos HV.out (by decide) (by omega)
        simp only [Value.slice.injEq, true_and] at hve
        obtain ⟨rfl, rfl⟩ := hve
        have hcs := flat_at wrC 133 (by decide) HV.out HW.out hlt
        have HS := Lib.hid (allD_succ n l k hlt)
        have h133 := HW.out _ (List.getElem_mem hlt)
        have h1 := wrC_one l[k]
        generalize l[k] = s at *
        go_upto_region 5 with (first
          | (refine Agg.gLoad 133 (wrC s) rfl rfl rfl (by decide +kernel) h133 hcs ?_; simp only [Act.put, List.setIfInBounds_toArray, List.set_cons_succ, List.set_cons_zero])
          | (refine Agg.allocRow 88 wr0.toArray rfl rfl (by kernel_rfl) ?_; simp only [Act.put, List.setIfInBounds_toArray, List.set_cons_succ, List.set_cons_zero])
          | (refine Agg.gStoreNew 133 (wrC s) rfl rfl rfl rfl rfl rfl (by decide +kernel) h133 wr0_size h1 ?_; simp only [Act.put]))
        clear hcs h1 h133
        refine Agg.wp_at fun w1 hw1 => ?_
        have hb : Below wr.heap.size wr w1 := by rw [hw1.out]; repeat (first | exact Below.refl _ _ | refine Agg.bel_drew ?_ | refine Agg.bel_alloc ?_ _)
        replace HB := Lib.hid (HB.out.trans (hb.mono HB.out.size))
        replace HV := Lib.hid (HV.out.keep hb)
        replace H1 := Lib.hid (H1.out.keep hb)
        clear hb
        have H5 : Hid (Blk w1 wr.heap.size 88 (wrC s)) := by show Blk _ _ _ _; rw [hw1.out]; exact Blk.new wr 88 (wrC s).toArray
        clear hw1
        have e5 : w1.cell? ⟨wr.heap.size, 0, none⟩ = some (.int .i64 s.1) := by rw [H5.out.cell]; rfl
        have HE5 := Lib.hid e5
        clear e5
        generalize wr.heap.size = g5 at *
        cases c
        · go_wp2_with fail
          go_roundw
          case rel => exact ⟨k + 1, by omega, by go_num, by rw [HS.out, ← Bool.and_assoc, HC.out]; rfl, HB.out, H1.out⟩
          case measure => simp [intOf]; omega
        · obtain ⟨tb, htb⟩ : ∃ t, thereB n s.1 = t := ⟨_, rfl⟩
          have HTB := Lib.hid htb
          clear htb
          have e5 := HE5.out
          clear xH1_0 xH1_1 xH1_2 xH1_3 lH1
          have xH1_0 := H1.out.cell 0
          have xH1_1 := H1.out.cell 1
          have xH1_2 := H1.out.cell 2
          have xH1_3 := H1.out.cell 3
          have lH1 := H1.out.lt
          simp only [List.getElem?_cons_zero, List.getElem?_cons_succ] at xH1_0 xH1_1 xH1_2 xH1_3
          go_wp2_with fail
          clear e5
          clear xH1_0 xH1_1 xH1_2 xH1_3 lH1
          refine (there_any x (some ⟨b, o, none⟩) n cap l.length cm z q s.1 w1 HN.out tb HTB.out).mono ?_
          rintro e w2 ⟨rfl, hb⟩
          replace HB := Lib.hid (HB.out.trans (hb.mono HB.out.size))
          replace HV := Lib.hid (HV.out.keep hb)
          replace H1 := Lib.hid (H1.out.keep hb)
          clear hb
          go_wp2_with fail
          go_roundw
          case rel => exact ⟨k + 1, by omega, by go_num, by rw [HS.out, ← Bool.and_assoc, HC.out, HTB.out]; rfl, HB.out, H1.out⟩
          case measure => simp [intOf]; omega
      · obtain rfl : k = l.length := by omega
        have hcc := HC.out
        rw [List.take_length] at hcc
        have hrr := HR.out
        rw [hcc] at hrr
        clear hcc
        cases c
        · obtain rfl : r = 260 := hrr.symm
          go_wp2_with fail
          go_ret
          exact ⟨rfl, HB.out⟩
        · obtain rfl : r = 0 := hrr.symm
          go_wp2_with fail
          go_ret
          exact ⟨rfl, HB.out⟩
end Go.Proofs.Ytjnnnnolikbjcaa
end
section
/-
  DEVICES: the document's Right.
-/
namespace Go.Proofs.Ytjnnnnolikbjcaa
open Go.ChangeShapes Go.WideShapes Go.ChangeAt Go.RowKit Agg Pg Dv

end Go.Proofs.Ytjnnnnolikbjcaa
end
section
/-
  DEVICES: writes are cloned; a device in memory of its own.
-/
namespace Go.Proofs.Ytjnnnnolikbjcaa
open Go.ChangeShapes Go.WideShapes Go.ChangeAt Go.RowKit Agg Pg Dv

theorem tiBl : TI Try.prog 22 38 132 160 (.agg (blkC zeroB).toArray) := ⟨by kernel_rfl, by kernel_rfl, by simp [Value.cells, zero132], by decide⟩
theorem tiW : TI Try.prog 28 88 133 168 (.agg wr0.toArray) := ⟨by kernel_rfl, by kernel_rfl, by simp [Value.cells, wr0, zero132], by decide⟩
theorem wrs_one (l : List (Int × List Sec)) : ∀ u ∈ l.flatMap wrC, u.oneCell' = true := by
  intro u hu
  obtain ⟨b, _, hb⟩ := List.mem_flatMap.1 hu
  exact wrC_one b u hb
theorem pgs_one (l : List (List Sec)) : ∀ u ∈ l.flatMap blkC, u.oneCell' = true := by
  intro u hu
  obtain ⟨b, _, hb⟩ := List.mem_flatMap.1 hu
  exact blkC_one b u hb
set_option maxRecDepth 100000 in
theorem cloneW_any (l : List (Int × List Sec)) (v : Value) (w : World) (hv : Wrs w v l) (hn : l.length ≤ 1000000) :
    Calls Try.prog 69 #[v] w fun e w' => ∃ u, e = .returned u ∧ w'.ownsRow w.heap.size 88 133 u l.length (l.flatMap wrC) ∧ Below w.heap.size w w' := by
  rcases hv.2 with ⟨rfl, h0⟩ | ⟨x, cap, rfl, hc1, hc2, h5⟩
  · have hl : l = [] := List.eq_nil_of_length_eq_zero h0
    subst hl
    have HV := Lib.hid hv
    clear hv h0
    have HB := Lib.hid (Below.refl w.heap.size w)
    go_enter Try.func69, Try.ntmps69
    have he : ∀ w : World, (binOp .eql 28 (.slice none 0 0) (.slice none 0 0)).run Try.prog w = .ok (.bool true) w := fun _ => rfl
    go_wp2_with fail
    go_ret
    exact ⟨_, rfl, World.ownsRow_nil _ _ _ _, HB.out⟩
  · have hc3 : cap ≤ 9223372036854775807 := by unfold maxLen at hc2; omega
    have hs := Lib.hid (SlR.keep hv ((Below.refl _ w).alloc (Nat.le_refl _) (.cells #[] 88)))
    have hown := Lib.hid (World.ownsRow_lit (e := 88) (size := 133) (base := w.heap.size) w #[] 0 (Nat.le_refl _) (by decide) rfl)
    clear hv h5 hc1 hc2
    have HB := Lib.hid (Below.refl w.heap.size w)
    go_enter Try.func69, Try.ntmps69
    have he : ∀ w : World, (binOp .eql 28 (.slice (some x) l.length cap) (.slice none 0 0)).run Try.prog w = .ok (.bool false) w := fun _ => rfl
    go_wp2_with (refine Agg.append tiW _ _ rfl rfl w.heap.size (v := .slice (some ⟨w.heap.size, 0, none⟩) 0 0) rfl hown.out rfl hs.out (wrs_one l) (by unfold maxLen; omega) (by omega) (by simp) ?_; intro v' w' ho hg hnil; simp only [Act.put, List.setIfInBounds_toArray, List.set_cons_succ, List.set_cons_zero])
    go_ret
    refine ⟨v', rfl, ?_, ?_⟩
    · simpa using ho
    · exact ((Below.refl _ w).alloc (Nat.le_refl _) _).trans ((grown_below hg (B := w.heap.size) (by simp) (by simp [Value.ownBlock])))
end Go.Proofs.Ytjnnnnolikbjcaa
end
section
/-
  DEVICES: a device in memory of its own.
-/
namespace Go.Proofs.Ytjnnnnolikbjcaa
open Go.ChangeShapes Go.WideShapes Go.ChangeAt Go.RowKit Agg Pg Dv

/-- an own row's base may be lowered -/
theorem own_base {w : World} {b b' : Nat} {e : TypeId} {sz : Nat} {v : Value} {n : Nat} {xs : List Value} (h : w.ownsRow b e sz v n xs) (hb : b' ≤ b) : w.ownsRow b' e sz v n xs := by
  rcases h.2 with ⟨h1, h2⟩ | ⟨g, cap, cur, h1, h2, h3⟩
  · exact ⟨h.1, .inl ⟨h1, h2⟩⟩
  · exact ⟨h.1, .inr ⟨g, cap, cur, h1, Nat.le_trans hb h2, h3⟩⟩
theorem spliced_all (xs cs : List Value) (k : Nat) (h : xs.length = k) (h2 : cs.length = k) : spliced xs (0 * 132) (cs.take k) = cs := by
  rw [List.take_of_length_le (by omega)]
  simp [spliced]; omega
set_option maxHeartbeats 4000000 in
set_option maxRecDepth 100000 in
theorem own_D (x y : Option Addr) (cap cm : Nat) (P : List (List Sec)) (l : List (Int × List Sec)) (z : Int) (q : Bool) (w : World) (hP : P.length ≤ 1000000) (hl : l.length ≤ 1000000) (hpb : ∀ b ∈ P, BOk b) (hp : Pgs w (.slice x P.length cap) P) (hv : Wrs w (.slice y l.length cm) l) :
    Calls Try.prog 46 #[.agg #[.slice x P.length cap, .slice y l.length cm, .int .i64 z, .bool q]] w fun e w' => ∃ p c, e = .returned (.agg #[p, c, .int .i64 z, .bool q]) ∧ w'.ownsRow w.heap.size 38 132 p P.length (P.flatMap blkC) ∧ w'.ownsRow w.heap.size 88 133 c l.length (l.flatMap wrC) ∧ Below w.heap.size w w' := by
  have HP := Lib.hid hp
  have HV := Lib.hid hv
  have HVW := HV
  have HPL := Lib.hid hP
  have HLL := Lib.hid hl
  have HCL : Hid ((P.flatMap blkC).length = P.length * 132) := Lib.hid (flat_len blkC 132 P (fun b hb => bok_cells (hpb b hb)))
  obtain ⟨_, _, hve, _, hmx⟩ := SlR.shape hv
  simp only [Value.slice.injEq, true_and] at hve
  obtain ⟨rfl, rfl⟩ := hve
  obtain ⟨_, _, hve, _, hmy⟩ := SlR.shape hp
  simp only [Value.slice.injEq, true_and] at hve
  obtain ⟨rfl, rfl⟩ := hve
  unfold maxLen at hmx hmy
  have hpn : (P.length : Int) ≤ 1000000 := by omega
  clear hv hp hP hl hpb
  have HB := Lib.hid (Below.refl w.heap.size w)
  go_enter Try.func46, Try.ntmps46
  go_upto_region 1 with (fail)
  refine Agg.wp_at fun w1 hw1 => ?_
  have hb : Below w.heap.size w w1 := by rw [hw1.out]; repeat (first | exact Below.refl _ _ | refine Agg.bel_drew ?_ | refine Agg.bel_alloc ?_ _)
  replace HB := Lib.hid (HB.out.trans (hb.mono HB.out.size))
  replace HP := Lib.hid (HP.out.keep hb)
  replace HV := Lib.hid (HV.out.keep hb)
  clear hb
  have H1 : Hid (Blk w1 w.heap.size 30 [.slice x P.length cap, .slice y l.length cm, .int .i64 z, .bool q]) := by show Blk _ _ _ _; rw [hw1.out]; exact (Blk.new w 30 #[.slice x P.length cap, .slice y l.length cm, .int .i64 z, .bool q]).al _
  have H2 : Hid (Blk w1 (w.heap.size + 1) 30 [.slice none 0 0, .slice none 0 0, .int .i64 0, .bool false]) := by show Blk _ _ _ _; rw [hw1.out]; exact Blk.newAt (w.alloc _) 30 #[.slice none 0 0, .slice none 0 0, .int .i64 0, .bool false] _ (by simp)
  have HSW : Hid (w1.heap.size = w.heap.size + 2) := by show _ = _; rw [hw1.out]; simp
  clear hw1
  have HSZ : Hid (w1.heap.size = w.heap.size + 2) := HSW
  have xH1_0 := H1.out.cell 0
  have xH1_1 := H1.out.cell 1
  have xH1_2 := H1.out.cell 2
  have xH1_3 := H1.out.cell 3
  have lH1 := H1.out.lt
  simp only [List.getElem?_cons_zero, List.getElem?_cons_succ] at xH1_0 xH1_1 xH1_2 xH1_3
  go_upto_region 2 with (refine Agg.make tiBl _ _ rfl rfl P.length P.length rfl rfl rfl rfl (Nat.le_refl _) (by omega) (by unfold maxLen; omega) ?_; simp only [Act.put, List.setIfInBounds_toArray, List.set_cons_succ, List.set_cons_zero])
  refine Agg.wp_at fun w2 hw2 => ?_
  have hb : Below w1.heap.size w1 w2 := by rw [hw2.out]; repeat (first | exact Below.refl _ _ | refine Agg.bel_drew ?_ | refine Agg.bel_alloc ?_ _)
  replace HB := Lib.hid (HB.out.trans (hb.mono HB.out.size))
  replace HP := Lib.hid (HP.out.keep hb)
  replace HV := Lib.hid (HV.out.keep hb)
  replace H1 := Lib.hid (H1.out.keep hb)
  replace H2 := Lib.hid (H2.out.keep hb)
  clear hb
  have hlit := World.ownsRow_lit (e := 38) (size := 132) (base := w.heap.size) w1 (madeCells (Value.cells (.agg (blkC zeroB).toArray)) (P.length * 132)) P.length (by have := HSZ.out; omega) (by unfold maxLen; omega) (size_madeCells _ _)
  rw [← hw2.out] at hlit
  have HO := Lib.hid hlit
  clear hlit
  have hG3 : w1.heap.size = w.heap.size + 2 := HSZ.out
  clear hw2
  rw [hG3] at HO ⊢
  clear hG3
  have ho := HO.out
  have hpp := HP.out
  obtain ⟨xs, hxs⟩ : ∃ xs, xs = (madeCells (Value.cells (.agg (blkC zeroB).toArray)) (P.length * 132)).toList := ⟨_, rfl⟩
  have hxl : xs.length = P.length * 132 := by rw [hxs]; simp [size_madeCells]
  rw [← hxs] at HO ho
  have HXL := Lib.hid hxl
  clear hxs hxl
  clear xH1_0 xH1_1 xH1_2 xH1_3 lH1
  have xH1_0 := H1.out.cell 0
  have xH1_1 := H1.out.cell 1
  have xH1_2 := H1.out.cell 2
  have xH1_3 := H1.out.cell 3
  have lH1 := H1.out.lt
  simp only [List.getElem?_cons_zero, List.getElem?_cons_succ] at xH1_0 xH1_1 xH1_2 xH1_3
  go_upto_region 3 with (refine Agg.copy tiBl _ _ rfl rfl ho 0 P.length P.length rfl rfl rfl hpp (pgs_one P) P.length (by simp) (by omega) (fun w6 ho6 hg6 => ?_))
  clear ho hpp
  have ho7 := ho6.out
  rw [spliced_all _ _ _ HXL.out HCL.out] at ho7
  have hb6 := HB.out.trans (grown_below hg6 HB.out.size (fun j hj => (by cases hj; omega)))
  have q1 := H1.out.far' hg6 (by omega)
  have q2 := H2.out.far' hg6 (by omega)
  have q3 := HVW.out.keep hb6
  replace HB := Lib.hid hb6
  replace HO := Lib.hid ho7
  replace H1 := Lib.hid q1
  replace H2 := Lib.hid q2
  replace HV := Lib.hid q3
  clear ho6 ho7 hg6 hb6 q1 q2 q3 HXL HP HSZ
  clear xH1_0 xH1_1 xH1_2 xH1_3 lH1
  have xH1_0 := H1.out.cell 0
  have xH1_1 := H1.out.cell 1
  have xH1_2 := H1.out.cell 2
  have xH1_3 := H1.out.cell 3
  have lH1 := H1.out.lt
  simp only [List.getElem?_cons_zero, List.getElem?_cons_succ] at xH1_0 xH1_1 xH1_2 xH1_3
  go_wp2_with fail
  have hsz6 := HB.out.size
  have h2l := H2.out.lt
  clear xH1_0 xH1_1 xH1_2 xH1_3 lH1
  refine (cloneW_any l _ w6 HV.out HLL.out).mono ?_
  rintro e w11 ⟨c, rfl, hc, hb⟩
  replace HB := Lib.hid (HB.out.trans (hb.mono HB.out.size))
  replace HV := Lib.hid (HV.out.keep hb)
  replace H1 := Lib.hid (H1.out.keep hb)
  replace H2 := Lib.hid (H2.out.keep hb)
  replace HO := Lib.hid (HO.out.keep hb)
  clear hb
  have hcb := own_block hc
  have HC := Lib.hid (own_base hc hsz6)
  have HCB : Hid (∀ g, g ≤ w.heap.size + 1 → c.ownBlock = none ∨ c.ownBlock ≠ some g) := Lib.hid (fun g hg => .inr (fun e => by have := hcb g e; omega))
  obtain ⟨xc, cc, rfl, _, _⟩ := (ownSl hc).shape
  clear hc hcb hsz6 h2l
  have h1 := H1.out
  have hsz := HB.out.size
  go_upto_region 4 with (first
    | (refine Agg.gStoreCell 0 (.slice (some ⟨w.heap.size + 2, 0, none⟩) P.length P.length) h1 rfl rfl rfl rfl rfl (by kernel_rfl) rfl (by simp) rfl (fun w12 hb12 hg12 => ?_); clear h1)
    | (refine Agg.gStoreCell 1 (.slice xc l.length cc) hb12 rfl rfl rfl rfl rfl (by kernel_rfl) rfl (by simp [spliced]) rfl (fun w13 hb13 hg13 => ?_); clear hb12))
  have q2 := (H2.out.far' hg12 (by omega)).far' hg13 (by omega)
  have q3 := (HO.out.kept hg12 (.inr (by simp [Value.ownBlock]))).kept hg13 (.inr (by simp [Value.ownBlock]))
  have q4 := (HC.out.kept hg12 (HCB.out _ (by omega))).kept hg13 (HCB.out _ (by omega))
  have hb1 := HB.out.trans (grown_below hg12 hsz (fun j hj => (by cases hj; omega)))
  have hb2 := hb1.trans (grown_below hg13 hb1.size (fun j hj => (by cases hj; omega)))
  have e13 : spliced (spliced [.slice x P.length cap, .slice y l.length cm, .int .i64 z, .bool q] 0 [.slice (some ⟨w.heap.size + 2, 0, none⟩) P.length P.length]) 1 [.slice xc l.length cc] = [.slice (some ⟨w.heap.size + 2, 0, none⟩) P.length P.length, .slice xc l.length cc, .int .i64 z, .bool q] := by simp [spliced]
  rw [e13] at hb13
  clear e13 hg12 hg13 hb1 H1 H2 HO HC HV
  replace HB := Lib.hid hb2
  have H2 := Lib.hid q2
  have HO := Lib.hid q3
  have HC := Lib.hid q4
  clear hb2 q3 q4
  have hsz2 := HB.out.size
  go_wp2_with (first
    | (refine Agg.gLoadB 4 hb13 rfl rfl rfl rfl (by decide +kernel) ?_; simp only [Act.put, List.setIfInBounds_toArray, List.set_cons_succ, List.set_cons_zero])
    | (refine Agg.gStoreB 4 [.slice (some ⟨w.heap.size + 2, 0, none⟩) P.length P.length, .slice xc l.length cc, .int .i64 z, .bool q] q2 rfl rfl rfl rfl rfl (by decide +kernel) rfl rfl (by simp [Value.oneCell']) (fun w14 hb14 hg14 => ?_)))
  have q5 := HO.out.kept hg14 (.inr (by simp [Value.ownBlock]))
  have q6 := HC.out.kept hg14 (HCB.out _ (by omega))
  refine bodyPost_ret (results_row1 (m := 4) rfl hb14 rfl (by decide +kernel) rfl) rfl ⟨_, _, rfl, q5, q6, ?_⟩
  exact HB.out.trans (grown_below hg14 hsz2 (fun j hj => (by cases hj; omega)))
end Go.Proofs.Ytjnnnnolikbjcaa
end
section
/-
  DEVICES: fuses burn.
-/
namespace Go.Proofs.Ytjnnnnolikbjcaa
open Go.ChangeShapes Go.WideShapes Go.ChangeAt Go.RowKit Agg Pg Dv

/-- a fuse that burns: the fuse, whether the power is off -/
def burnF (z : Int) (q : Bool) : Int × Bool := if z = 0 then (-1, true) else if 0 < z then (z - 1, q) else (z, q)
end Go.Proofs.Ytjnnnnolikbjcaa
end
section
/-
  DEVICES: a turning device's fuse burns.
-/
namespace Go.Proofs.Ytjnnnnolikbjcaa
open Go.ChangeShapes Go.WideShapes Go.ChangeAt Go.RowKit Agg Pg Dv

theorem fo_fo_Tu_0 : Agg.fieldOff Try.prog 85 0 = some 0 := by kernel_rfl
set_option maxHeartbeats 4000000 in
set_option maxRecDepth 100000 in
theorem burns_any (x y : Option Addr) (n cap m cm : Nat) (z : Int) (q : Bool) (T : TypeId) (g : Nat) (w : World) (hz1 : -1 ≤ z) (hz2 : z ≤ 10000) (H : Blk w g T [.slice x n cap, .slice y m cm, .int .i64 z, .bool q]) (f : Int) (o : Bool) (hf : burnF z q = (f, o)) :
    Calls Try.prog 61 #[.pointer (some ⟨g, 0, none⟩)] w fun e w' => e = .returned (.bool (!o)) ∧ Blk w' g T [.slice x n cap, .slice y m cm, .int .i64 f, .bool o] ∧ w.grownBy w' (some g) := by
  have HF := Lib.hid hf
  have H1 := Lib.hid H
  have h1 := H
  clear hf H
  have HB := Lib.hid (Below.refl w.heap.size w)
  go_enter Try.func61, Try.ntmps61
  by_cases h0 : z = 0
  · subst h0
    obtain ⟨rfl, rfl⟩ : f = -1 ∧ o = true := by have := HF.out; simp only [burnF, if_true, Prod.mk.injEq] at this; exact ⟨this.1.symm, this.2.symm⟩
    have xH1_0 := H1.out.cell 0
    have xH1_1 := H1.out.cell 1
    have xH1_2 := H1.out.cell 2
    have xH1_3 := H1.out.cell 3
    have lH1 := H1.out.lt
    simp only [List.getElem?_cons_zero, List.getElem?_cons_succ] at xH1_0 xH1_1 xH1_2 xH1_3
    go_wp2_with (first
      | (refine Agg.gStoreCell 3 (.bool true) h1 rfl rfl rfl rfl rfl (by kernel_rfl) rfl (by simp) rfl (fun w12 hb12 hg12 => ?_); clear h1)
      | (refine Agg.gStoreCell 2 (.int .i64 (-1)) hb12 rfl rfl rfl rfl rfl (by kernel_rfl) rfl (by simp [spliced]) rfl (fun w13 hb13 hg13 => ?_); have e3 : w13.cell? ⟨g, 3, none⟩ = some (.bool true) := hb13.cell 3; clear hb12))
    go_ret
    have hb := hb13
    simp only [spliced, List.take_succ_cons, List.take_zero, List.drop_succ_cons, List.drop_zero, List.length_cons, List.length_nil, List.cons_append, List.nil_append] at hb
    exact ⟨rfl, hb, hg12.trans hg13⟩
  · have hz0 : (z == 0) = false := by simpa using h0
    by_cases h3 : 0 < z
    · obtain ⟨rfl, rfl⟩ : f = z - 1 ∧ o = q := by have := HF.out; simp only [burnF, if_neg h0, if_pos h3, Prod.mk.injEq] at this; exact ⟨this.1.symm, this.2.symm⟩
      have h3' : z > 0 := h3
      clear h0 HF
      have xH1_0 := H1.out.cell 0
      have xH1_1 := H1.out.cell 1
      have xH1_2 := H1.out.cell 2
      have xH1_3 := H1.out.cell 3
      have lH1 := H1.out.lt
      simp only [List.getElem?_cons_zero, List.getElem?_cons_succ] at xH1_0 xH1_1 xH1_2 xH1_3
      go_wp2_with (refine Agg.gStoreCell 2 (.int .i64 (z - 1)) h1 rfl rfl rfl rfl rfl (by kernel_rfl) rfl (by simp) rfl (fun w13 hb13 hg13 => ?_); have e3 : w13.cell? ⟨g, 3, none⟩ = some (.bool o) := hb13.cell 3; clear h1)
      go_ret
      have hb := hb13
      simp only [spliced, List.take_succ_cons, List.take_zero, List.drop_succ_cons, List.drop_zero, List.length_cons, List.length_nil, List.cons_append, List.nil_append] at hb
      exact ⟨rfl, hb, hg13⟩
    · obtain ⟨rfl, rfl⟩ : f = z ∧ o = q := by have := HF.out; simp only [burnF, if_neg h0, if_neg h3, Prod.mk.injEq] at this; exact ⟨this.1.symm, this.2.symm⟩
      clear h0 HF
      have xH1_0 := H1.out.cell 0
      have xH1_1 := H1.out.cell 1
      have xH1_2 := H1.out.cell 2
      have xH1_3 := H1.out.cell 3
      have lH1 := H1.out.lt
      simp only [List.getElem?_cons_zero, List.getElem?_cons_succ] at xH1_0 xH1_1 xH1_2 xH1_3
      go_wp2_with fail
      go_ret
      exact ⟨rfl, h1, World.grownBy.refl _ _⟩
end Go.Proofs.Ytjnnnnolikbjcaa
end
