/-
  THE WALKS OF LAYER 7 (runs): the document's Rising.
-/
import Derived.OpenShut
import Derived.ShutString
import Derived.ChangeOld
import Derived.Deep.Slices
import Derived.Test.YtpligbfajnjklaaRu8
import Derived.Test.YtpligbfajnjklaaAgg
section
namespace Go.Proofs.Ytpligbfajnjklaa
open Go.ChangeShapes Go.WideShapes Go.ChangeAt Go.RowKit Agg Pg Ru

theorem tms_at {w : World} {b o n cap : Nat} {l : List Int} (h : Tms w (.slice (some ⟨b, o, none⟩) n cap) l) {k : Nat} (hk : k < l.length) : w.cell? ⟨b, o + (k : Int).toNat * 1, none⟩ = some (.int .i64 l[k]) := by
  obtain ⟨b', o', cap', hve, _, _, hcm, _⟩ := SlR.pos h (by decide) (by omega)
  simp only [Value.slice.injEq] at hve
  obtain ⟨hve, _⟩ := hve
  cases hve
  rw [Int.toNat_natCast, Nat.mul_one]
  exact hcm k _ (by simp [tC, List.getElem?_eq_getElem hk])
theorem ge_not (p t : Int) : decide (p ≥ t) = !decide (p < t) := by
  by_cases h : p < t
  · rw [decide_eq_true h, decide_eq_false (by omega)]; rfl
  · rw [decide_eq_false h, decide_eq_true (by omega)]; rfl
theorem Tms.len {w : World} {x : Option Addr} {n cap : Nat} {l : List Int} (h : Tms w (.slice x n cap) l) : (l.length : Int) ≤ 9223372036854775807 := by
  obtain ⟨_, _, e, h1, h2⟩ := SlR.shape h
  unfold maxLen at h2
  omega
set_option maxHeartbeats 2000000 in
set_option maxRecDepth 100000 in
theorem rising_any (l : List Int) (v : Value) (w : World) (hl : Tms w v l) :
    Calls Try.prog 13 #[v] w fun e w' => e = .returned (.bool (risingB l)) ∧ Below w.heap.size w w' := by
  obtain ⟨x, cap, rfl, _⟩ := SlR.shape hl
  have HL := Lib.hid hl
  have HL0 := HL
  have hln := Tms.len hl
  obtain ⟨rb, hrb⟩ : ∃ b, risingB l = b := ⟨_, rfl⟩
  have HRB := Lib.hid hrb
  rw [hrb]
  have HBADK : Hid (∀ k, k < l.length → upAt l k = false → rb = false) := Lib.hid (fun k hk h => by
    cases rb with
    | false => rfl
    | true =>
      simp only [risingB, Bool.and_eq_true, List.all_eq_true] at hrb
      have := hrb.2 k (List.mem_range.2 hk)
      rw [h] at this; cases this)
  clear hl hrb
  have HB := Lib.hid (Below.refl w.heap.size w)
  go_enter Try.func13, Try.ntmps13
  by_cases h0 : l.length < 1
  · have hb : rb = false := by rw [← HRB.out]; simp [risingB]; intro h; omega
    subst hb
    have h0b : (l.length : Int) < 1 := by omega
    go_wp2_with fail
    go_ret
    exact ⟨rfl, HB.out⟩
  · have h0b : ¬ (l.length : Int) < 1 := by omega
    by_cases h256 : l.length ≤ 256
    · have h256b : ¬ (l.length : Int) > 256 := by omega
      go_wp2_with fail
      go_loopw [3] (fun i wr => ∃ k : Nat, k ≤ l.length ∧ i = .int .i64 k ∧ (∀ j, j < k → upAt l j = true) ∧ Below w.heap.size w wr) (fun i _ => l.length - (intOf i).toNat)
      case atStart => exact ⟨0, by omega, rfl, fun j hj => absurd hj (by omega), HB.out⟩
      case round =>
        obtain ⟨k, hk, rfl, hup, hb⟩ := hrel
        have HUP := Lib.hid hup
        replace HB := Lib.hid hb
        replace HL := Lib.hid (SlR.keep HL0.out hb)
        clear hup hb
        obtain ⟨wA, hwA⟩ : ∃ x, x = wr := ⟨_, rfl⟩
        subst hwA
        by_cases hlt : k < l.length
        · obtain ⟨b, o, cap', hve, _, _, _, _⟩ := SlR.pos HL.out (by decide) (by omega)
          simp only [Value.slice.injEq, true_and] at hve
          obtain ⟨rfl, rfl⟩ := hve
          have hua := upAt_eq l k hlt
          have hcs := tms_at HL.out hlt
          have HBK := Lib.hid (HBADK.out k hlt)
          obtain ⟨t, ht⟩ : ∃ t, l[k]'hlt = t := ⟨_, rfl⟩
          rw [ht] at hua hcs
          have HUA := Lib.hid hua
          have HC := Lib.hid hcs
          clear hua hcs ht
          go_upto_region 6 with (fail)
          go_cut [45] from 18 to 45 (fun v wx => v = .bool (!upAt l k) ∧ Below wA.heap.size wA wx)
          case first =>
            by_cases t0 : t < 0
            · have e : upAt l k = false := by rw [HUA.out, decide_eq_false (show ¬ 0 ≤ t by omega)]; rfl
              refine Agg.chainR 28 (by kernel_rfl) (by kernel_rfl) ?_
              simp only [List.take_succ_cons, List.take_zero, List.drop_succ_cons, List.drop_zero]
              refine Agg.chMove rfl rfl rfl rfl ?_
              refine Agg.chMove rfl rfl rfl rfl ?_
              refine Agg.chIA ti22 (by omega) (by omega) rfl rfl rfl rfl rfl ?_
              refine Agg.chLoad rfl rfl rfl rfl (by decide +kernel) HC.out ?_
              refine Agg.chLt true (by simpa using t0) rfl rfl rfl rfl rfl ?_
              refine Agg.chMove rfl rfl rfl rfl ?_
              refine Agg.chSkip rfl rfl ?_
              refine Agg.chSkip rfl rfl ?_
              refine Agg.chSkip rfl rfl ?_
              refine Agg.chSkip rfl rfl ?_
              refine Agg.chSkip rfl rfl ?_
              refine Agg.chPick rfl rfl rfl rfl rfl ?_
              refine Agg.chMove rfl rfl rfl rfl ?_
              refine Agg.chSkip rfl rfl ?_
              refine Agg.chSkip rfl rfl ?_
              refine Agg.chSkip rfl rfl ?_
              refine Agg.chSkip rfl rfl ?_
              refine Agg.chSkip rfl rfl ?_
              refine Agg.chSkip rfl rfl ?_
              refine Agg.chSkip rfl rfl ?_
              refine Agg.chSkip rfl rfl ?_
              refine Agg.chSkip rfl rfl ?_
              refine Agg.chSkip rfl rfl ?_
              refine Agg.chSkip rfl rfl ?_
              refine Agg.chSkip rfl rfl ?_
              refine Agg.chSkip rfl rfl ?_
              refine Agg.chSkip rfl rfl ?_
              refine Agg.chPick rfl rfl rfl rfl rfl ?_
              refine Agg.chEnd ?_
              intro vs w21 hb hf
              simp only [List.reverse, List.reverseAux, Agg.Facts] at hf
              obtain _ := hf
              simp only [List.reverse, List.reverseAux, Agg.fill, List.set_cons_succ, List.set_cons_zero]
              refine Agg.noP ?_
              go_wp2_with fail
              go_meet
              exact ⟨by rw [e]; rfl, hb⟩
            · have t0b : decide (t < 0) = false := by simp; omega
              by_cases t1 : t > 281474976710656
              · have e : upAt l k = false := by rw [HUA.out, decide_eq_false (show ¬ t ≤ maxT by unfold maxT; omega), Bool.and_false]; rfl
                refine Agg.chainR 28 (by kernel_rfl) (by kernel_rfl) ?_
                simp only [List.take_succ_cons, List.take_zero, List.drop_succ_cons, List.drop_zero]
                refine Agg.chMove rfl rfl rfl rfl ?_
                refine Agg.chMove rfl rfl rfl rfl ?_
                refine Agg.chIA ti22 (by omega) (by omega) rfl rfl rfl rfl rfl ?_
                refine Agg.chLoad rfl rfl rfl rfl (by decide +kernel) HC.out ?_
                refine Agg.chLt false t0b rfl rfl rfl rfl rfl ?_
                refine Agg.chMove rfl rfl rfl rfl ?_
                refine Agg.chMove rfl rfl rfl rfl ?_
                refine Agg.chMove rfl rfl rfl rfl ?_
                refine Agg.chIA ti22 (by omega) (by omega) rfl rfl rfl rfl rfl ?_
                refine Agg.chLoad rfl rfl rfl rfl (by decide +kernel) HC.out ?_
                refine Agg.chGt true (by simpa using t1) rfl rfl rfl rfl rfl ?_
                refine Agg.chPick rfl rfl rfl rfl rfl ?_
                refine Agg.chMove rfl rfl rfl rfl ?_
                refine Agg.chSkip rfl rfl ?_
                refine Agg.chSkip rfl rfl ?_
                refine Agg.chSkip rfl rfl ?_
                refine Agg.chSkip rfl rfl ?_
                refine Agg.chSkip rfl rfl ?_
                refine Agg.chSkip rfl rfl ?_
                refine Agg.chSkip rfl rfl ?_
                refine Agg.chSkip rfl rfl ?_
                refine Agg.chSkip rfl rfl ?_
                refine Agg.chSkip rfl rfl ?_
                refine Agg.chSkip rfl rfl ?_
                refine Agg.chSkip rfl rfl ?_
                refine Agg.chSkip rfl rfl ?_
                refine Agg.chSkip rfl rfl ?_
                refine Agg.chPick rfl rfl rfl rfl rfl ?_
                refine Agg.chEnd ?_
                intro vs w22 hb hf
                simp only [List.reverse, List.reverseAux, Agg.Facts] at hf
                obtain _ := hf
                simp only [List.reverse, List.reverseAux, Agg.fill, List.set_cons_succ, List.set_cons_zero]
                refine Agg.noP ?_
                go_wp2_with fail
                go_meet
                exact ⟨by rw [e]; rfl, hb⟩
              · have t1b : decide (t > 281474976710656) = false := by simp; omega
                have e0 : upAt l k = prevUp l k t := by rw [HUA.out, decide_eq_true (show 0 ≤ t by omega), decide_eq_true (show t ≤ maxT by unfold maxT; omega)]; rfl
                have E0 := Lib.hid e0
                clear e0
                cases k with
                | zero =>
                  refine Agg.chainR 28 (by kernel_rfl) (by kernel_rfl) ?_
                  simp only [List.take_succ_cons, List.take_zero, List.drop_succ_cons, List.drop_zero]
                  refine Agg.chMove rfl rfl rfl rfl ?_
                  refine Agg.chMove rfl rfl rfl rfl ?_
                  refine Agg.chIA ti22 (by omega) (by omega) rfl rfl rfl rfl rfl ?_
                  refine Agg.chLoad rfl rfl rfl rfl (by decide +kernel) HC.out ?_
                  refine Agg.chLt false t0b rfl rfl rfl rfl rfl ?_
                  refine Agg.chMove rfl rfl rfl rfl ?_
                  refine Agg.chMove rfl rfl rfl rfl ?_
                  refine Agg.chMove rfl rfl rfl rfl ?_
                  refine Agg.chIA ti22 (by omega) (by omega) rfl rfl rfl rfl rfl ?_
                  refine Agg.chLoad rfl rfl rfl rfl (by decide +kernel) HC.out ?_
                  refine Agg.chGt false t1b rfl rfl rfl rfl rfl ?_
                  refine Agg.chPick rfl rfl rfl rfl rfl ?_
                  refine Agg.chMove rfl rfl rfl rfl ?_
                  refine Agg.chMove rfl rfl rfl rfl ?_
                  refine Agg.chGt false (by simp) rfl rfl rfl rfl rfl ?_
                  refine Agg.chMove rfl rfl rfl rfl ?_
                  refine Agg.chSkip rfl rfl ?_
                  refine Agg.chSkip rfl rfl ?_
                  refine Agg.chSkip rfl rfl ?_
                  refine Agg.chSkip rfl rfl ?_
                  refine Agg.chSkip rfl rfl ?_
                  refine Agg.chSkip rfl rfl ?_
                  refine Agg.chSkip rfl rfl ?_
                  refine Agg.chSkip rfl rfl ?_
                  refine Agg.chSkip rfl rfl ?_
                  refine Agg.chSkip rfl rfl ?_
                  refine Agg.chPick rfl rfl rfl rfl rfl ?_
                  refine Agg.chPick rfl rfl rfl rfl rfl ?_
                  refine Agg.chEnd ?_
                  intro vs w23 hb hf
                  simp only [List.reverse, List.reverseAux, Agg.Facts] at hf
                  obtain _ := hf
                  simp only [List.reverse, List.reverseAux, Agg.fill, List.set_cons_succ, List.set_cons_zero]
                  refine Agg.noP ?_
                  go_wp2_with fail
                  go_meet
                  exact ⟨by rw [E0.out]; rfl, hb⟩
                | succ j =>
                  have hj : j < l.length := by omega
                  have hpu : prevUp l (j + 1) t = decide (l[j]'hj < t) := by simp only [prevUp, List.getElem?_eq_getElem hj]
                  have hcp := tms_at HL.out hj
                  rw [show ((j : Nat) : Int) = ((j + 1 : Nat) : Int) - 1 by omega] at hcp
                  obtain ⟨p, hp⟩ : ∃ p, l[j]'hj = p := ⟨_, rfl⟩
                  rw [hp] at hcp hpu
                  have HCP := Lib.hid hcp
                  have HPU := Lib.hid hpu
                  clear hcp hp hpu
                  obtain ⟨q, hq⟩ : ∃ q : Bool, decide (p ≥ t) = q := ⟨_, rfl⟩
                  refine Agg.chainR 28 (by kernel_rfl) (by kernel_rfl) ?_
                  simp only [List.take_succ_cons, List.take_zero, List.drop_succ_cons, List.drop_zero]
                  refine Agg.chMove rfl rfl rfl rfl ?_
                  refine Agg.chMove rfl rfl rfl rfl ?_
                  refine Agg.chIA ti22 (by omega) (by omega) rfl rfl rfl rfl rfl ?_
                  refine Agg.chLoad rfl rfl rfl rfl (by decide +kernel) HC.out ?_
                  refine Agg.chLt false t0b rfl rfl rfl rfl rfl ?_
                  refine Agg.chMove rfl rfl rfl rfl ?_
                  refine Agg.chMove rfl rfl rfl rfl ?_
                  refine Agg.chMove rfl rfl rfl rfl ?_
                  refine Agg.chIA ti22 (by omega) (by omega) rfl rfl rfl rfl rfl ?_
                  refine Agg.chLoad rfl rfl rfl rfl (by decide +kernel) HC.out ?_
                  refine Agg.chGt false t1b rfl rfl rfl rfl rfl ?_
                  refine Agg.chPick rfl rfl rfl rfl rfl ?_
                  refine Agg.chMove rfl rfl rfl rfl ?_
                  refine Agg.chMove rfl rfl rfl rfl ?_
                  refine Agg.chGt true (by simp) rfl rfl rfl rfl rfl ?_
                  refine Agg.chMove rfl rfl rfl rfl ?_
                  refine Agg.chMove rfl rfl rfl rfl ?_
                  refine Agg.chMove rfl rfl rfl rfl ?_
                  refine Agg.chAr64 rfl rfl rfl rfl (by omega) (by omega) rfl rfl ?_
                  refine Agg.chIA ti22 (by omega) (by omega) rfl rfl rfl rfl rfl ?_
                  refine Agg.chLoad rfl rfl rfl rfl (by decide +kernel) HCP.out ?_
                  refine Agg.chMove rfl rfl rfl rfl ?_
                  refine Agg.chMove rfl rfl rfl rfl ?_
                  refine Agg.chIA ti22 (by omega) (by omega) rfl rfl rfl rfl rfl ?_
                  refine Agg.chLoad rfl rfl rfl rfl (by decide +kernel) HC.out ?_
                  refine Agg.chGe q hq rfl rfl rfl rfl rfl ?_
                  refine Agg.chPick rfl rfl rfl rfl rfl ?_
                  refine Agg.chPick rfl rfl rfl rfl rfl ?_
                  refine Agg.chEnd ?_
                  intro vs w24 hb hf
                  simp only [List.reverse, List.reverseAux, Agg.Facts] at hf
                  obtain _ := hf
                  simp only [List.reverse, List.reverseAux, Agg.fill, List.set_cons_succ, List.set_cons_zero]
                  refine Agg.noP ?_
                  go_wp2_with fail
                  go_meet
                  exact ⟨by rw [E0.out, HPU.out, ← hq, ge_not], hb⟩
          case rest =>
            obtain ⟨rfl, hwx⟩ := hcut
            replace HB := Lib.hid (HB.out.trans (hwx.mono HB.out.size))
            clear hwx
            cases hu : upAt l k
            · have hb : rb = false := HBK.out hu
              subst hb
              have HU := Lib.hid hu
              clear hu
              rw [show (!false) = true from rfl]
              go_wp2_with fail
              go_ret
              exact ⟨rfl, HB.out⟩
            · have HU := Lib.hid hu
              clear hu
              rw [show (!true) = false from rfl]
              go_wp2_with fail
              exact ⟨⟨k + 1, by omega, by go_num, fun i hi => (Nat.lt_succ_iff_lt_or_eq.1 hi).elim (HUP.out i) (fun e => e ▸ HU.out), HB.out⟩, by simp [intOf]; omega⟩
        · obtain rfl : k = l.length := by omega
          have hb : rb = true := by
            rw [← HRB.out]
            simp only [risingB, Bool.and_eq_true, decide_eq_true_eq, List.all_eq_true]
            exact ⟨⟨by omega, h256⟩, fun i hi => HUP.out i (List.mem_range.1 hi)⟩
          subst hb
          go_wp2_with fail
          go_ret
          exact ⟨rfl, HB.out⟩
    · have hb : rb = false := by rw [← HRB.out]; simp [risingB, h256]
      subst hb
      have h256b : (l.length : Int) > 256 := by omega
      go_wp2_with fail
      go_ret
      exact ⟨rfl, HB.out⟩
end Go.Proofs.Ytpligbfajnjklaa
end
section
/-
  WHAT AN ARGUMENT THAT CAN BE READ AS DATA HOLDS, cell by cell, whatever its type (of bools, integers, strings, structs, arrays, slices). Over any program.
-/
namespace Agg
open Go Go.RowKit Go.ChangeShapes Go.WideShapes Go.Deep

theorem okWide_array {P : Program} {w : World} {r : Reach} {base : Nat} {t : TypeId} {v : Value} {n : Nat} {e : TypeId} (ht : P.underlying t = some (.array n e)) (h : Value.okWide P w r base t v) : ∃ cs, v = .agg cs ∧ cs.size = P.cellsOf t := by
  simp only [Value.okWide, ht] at h
  obtain ⟨cs, h1, h2, _⟩ := h
  exact ⟨cs, h1, h2⟩
def Good (P : Program) (w : World) : Nat → TypeId → List Value → Prop
  | 0, _, _ => False
  | n + 1, t, cs =>
    match P.underlying t with
    | some .bool => ∃ b, cs = [.bool b]
    | some (.int k) => ∃ z : Int, cs = [.int k z] ∧ k.min ≤ z ∧ z ≤ k.max
    | some .string => ∃ s : ByteArray, cs = [.string s] ∧ s.size ≤ maxLen
    | some (.struct fs) => cs.length = P.cellsOf t ∧ ∀ (i : Nat) (f : Field), fs[i]? = some f → Good P w n f.type ((cs.drop f.offset).take (P.cellsOf f.type))
    | some (.array m e) => cs.length = P.cellsOf t ∧ ∀ i : Nat, i < m → Good P w n e ((cs.drop (i * P.cellsOf e)).take (P.cellsOf e))
    | some (.slice e) => cs = [.slice none 0 0] ∨ ∃ (a : Addr) (len cap : Nat), cs = [.slice (some a) len cap] ∧ len ≤ cap ∧ cap ≤ maxLen ∧
        ∀ i : Nat, i < len → ∃ cs' : List Value, cs'.length = P.cellsOf e ∧ (∀ j : Nat, j < P.cellsOf e → w.cell? (a.add (i * P.cellsOf e + j)) = cs'[j]?) ∧ Good P w n e cs'
    | _ => True

theorem good_of_trod {H : Type} {enc : TypeId × Value → H} {P : Program} {w : World} {base : Nat} {spare : Nat → Bool} {held : Bool} : ∀ (fuel : Nat) (t : TypeId) (cs : List Value) (x : DataW H × List MemPlace),
    DataW.trod enc P w base spare held fuel t cs = some x → Good P w fuel t cs
  | 0, _, _, _, h => by simp [DataW.trod] at h
  | n + 1, t, cs, x, h => by
    unfold Good
    split
    · rename_i ht; obtain ⟨b, hb, _⟩ := DataW.trod_bool ht h; exact ⟨b, hb⟩
    · rename_i k ht
      obtain ⟨z, hz, _, hw⟩ := DataW.trod_int ht h
      simp only [Lit.wf, Bool.and_eq_true, decide_eq_true_eq] at hw
      exact ⟨z, hz, hw⟩
    · rename_i ht; obtain ⟨s, hs, _, hm⟩ := DataW.trod_string ht h; exact ⟨s, hs, hm⟩
    · rename_i fs ht
      obtain ⟨xs, m, hm, _, hl, hxl, hf⟩ := DataW.trod_struct ht h
      obtain rfl : n = m := by omega
      refine ⟨hl, fun i f hi => ?_⟩
      have h1 := hf i f hi
      have hlt : i < xs.length := by rw [hxl]; exact (Array.getElem?_eq_some_iff.1 hi).1
      rw [List.getElem?_eq_getElem hlt] at h1
      exact good_of_trod n _ _ _ h1
    · rename_i m e ht
      obtain ⟨xs, m', hm, _, hl, hxl, hf⟩ := DataW.trod_array ht h
      obtain rfl : n = m' := by omega
      refine ⟨hl, fun i hi => ?_⟩
      have h1 := hf i hi
      have hlt : i < xs.length := by omega
      rw [List.getElem?_eq_getElem hlt] at h1
      exact good_of_trod n _ _ _ h1
    · rename_i e ht
      rcases DataW.trod_slice ht h with ⟨h0, _⟩ | ⟨a, len, cap, elems, rest, m, hm, hcs, _, _, hl, hcm, hlen, hel, _⟩
      · exact .inl h0
      · obtain rfl : n = m := by omega
        refine .inr ⟨a, len, cap, hcs, hl, hcm, fun i hi => ?_⟩
        have h1 := hel i hi
        rw [List.getElem?_eq_getElem (by omega)] at h1
        obtain ⟨cs', hc, ht'⟩ := Option.bind_eq_some_iff.1 h1
        obtain ⟨_, hcl, hat⟩ := World.cells?_some hc
        exact ⟨cs', hcl, fun j hj => by rw [← hat j hj, Go.Deep.add_add], good_of_trod n _ _ _ ht'⟩
    · trivial

/-- a slice of bytes that can be read -/
theorem good_bytes {P : Program} {w : World} {t e : TypeId} (ht : P.underlying t = some (.slice e)) (he : P.underlying e = some (.int .u8)) (hc : P.cellsOf e = 1) {fuel : Nat} {v : Value} (h : Good P w fuel t [v]) :
    ∃ l : List UInt8, Bytes w v l ∧ l.length ≤ maxLen := by
  cases fuel with
  | zero => exact h.elim
  | succ n =>
    unfold Good at h
    rw [ht] at h
    rcases h with h | ⟨a, len, cap, h, hl, hm, hcs⟩
    · simp only [List.cons.injEq, and_true] at h
      subst h
      exact ⟨[], SlR.nil _ _, Nat.zero_le _⟩
    · simp only [List.cons.injEq, and_true] at h
      subst h
      have key : ∀ i, i < len → ∃ c : UInt8, w.cell? (a.add i) = some (.int .u8 (c.toNat : Int)) := by
        intro i hi
        obtain ⟨cs', hcl, hat, hg⟩ := hcs i hi
        cases n with
        | zero => exact hg.elim
        | succ n =>
          unfold Good at hg
          rw [he] at hg
          obtain ⟨z, rfl, h0, h1⟩ := hg
          have := hat 0 (by omega)
          rw [hc, Nat.mul_one, Nat.add_zero] at this
          simp only [IntKind.min, IntKind.max, IntKind.signed, IntKind.bits] at h0 h1
          have h0' : 0 ≤ z := by simpa using h0
          have h1' : z ≤ 255 := by simpa using h1
          refine ⟨UInt8.ofNat z.toNat, ?_⟩
          rw [this]
          simp only [List.getElem?_cons_zero]
          congr 2
          rw [UInt8.toNat_ofNat']; omega
      have hch : ∃ f : Nat → UInt8, ∀ i, i < len → w.cell? (a.add i) = some (.int .u8 ((f i).toNat : Int)) :=
        ⟨fun i => if h : i < len then Classical.choose (key i h) else 0, fun i hi => by simp only [hi, dif_pos]; exact Classical.choose_spec (key i hi)⟩
      obtain ⟨f, hf⟩ := hch
      refine ⟨(List.range len).map f, ⟨by simp [bv_length], .inr ⟨a, cap, by simp, by simpa using hl, hm, fun i u hu => ?_⟩⟩, by simp; omega⟩
      have hi : i < len := by
        have := (List.getElem?_eq_some_iff.1 hu).1
        simpa [bv] using this
      rw [bv_get _ _ (by simpa using hi)] at hu
      simp only [List.getElem_map, List.getElem_range, Option.some.injEq] at hu
      subst hu
      exact hf i hi
/-- rows of bytes that can be read -/
theorem good_rows {P : Program} {w : World} {t s e : TypeId} (ht : P.underlying t = some (.slice s)) (hs : P.underlying s = some (.slice e)) (he : P.underlying e = some (.int .u8)) (hcs : P.cellsOf s = 1) (hc : P.cellsOf e = 1) {fuel : Nat} {v : Value} (h : Good P w fuel t [v]) :
    ∃ ls : List (List UInt8), Rows2 w v ls ∧ ∀ l ∈ ls, l.length ≤ maxLen := by
  cases fuel with
  | zero => exact h.elim
  | succ n =>
    unfold Good at h
    rw [ht] at h
    rcases h with h | ⟨a, len, cap, h, hl, hm, hel⟩
    · simp only [List.cons.injEq, and_true] at h
      subst h
      exact ⟨[], ⟨[], SlR.nil _ _, fun i l hl => by simp at hl⟩, fun l hl => by cases hl⟩
    · simp only [List.cons.injEq, and_true] at h
      subst h
      have key : ∀ i, i < len → ∃ x : Value × List UInt8, w.cell? (a.add i) = some x.1 ∧ Bytes w x.1 x.2 ∧ x.2.length ≤ maxLen := by
        intro i hi
        obtain ⟨cs', hcl, hat, hg⟩ := hel i hi
        rw [hcs] at hcl
        match cs', hcl with
        | [u], _ =>
          obtain ⟨l, hb, hlm⟩ := good_bytes hs he hc hg
          have := hat 0 (by omega)
          rw [hcs, Nat.mul_one, Nat.add_zero] at this
          exact ⟨(u, l), this, hb, hlm⟩
      have hch : ∃ f : Nat → Value × List UInt8, ∀ i, i < len → w.cell? (a.add i) = some (f i).1 ∧ Bytes w (f i).1 (f i).2 ∧ (f i).2.length ≤ maxLen :=
        ⟨fun i => if h : i < len then Classical.choose (key i h) else (.nilFunc, []), fun i hi => by simp only [hi, dif_pos]; exact Classical.choose_spec (key i hi)⟩
      obtain ⟨f, hf⟩ := hch
      refine ⟨(List.range len).map fun i => (f i).2, ⟨(List.range len).map fun i => (f i).1, ⟨by simp, .inr ⟨a, cap, by simp, by simpa using hl, hm, fun i u hu => ?_⟩⟩, fun i l hl' => ?_⟩, fun l hl' => ?_⟩
      · have hi : i < len := by have := (List.getElem?_eq_some_iff.1 hu).1; simpa using this
        simp only [List.getElem?_map, List.getElem?_range hi, Option.map_some, Option.some.injEq] at hu
        subst hu
        exact (hf i hi).1
      · have hi : i < len := by have := (List.getElem?_eq_some_iff.1 hl').1; simpa using this
        simp only [List.getElem?_map, List.getElem?_range hi, Option.map_some, Option.some.injEq] at hl' ⊢
        subst hl'
        exact ⟨_, rfl, (hf i hi).2.1⟩
      · obtain ⟨i, hi, rfl⟩ := List.mem_map.1 hl'
        exact (hf i (List.mem_range.1 hi)).2.2
end Agg
end
