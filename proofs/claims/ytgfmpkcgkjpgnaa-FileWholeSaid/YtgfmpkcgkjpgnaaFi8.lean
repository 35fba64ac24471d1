/-
  PAGES: what arguments of the statements hold: pages, blocks.
-/
import Derived.Test.YtgfmpkcgkjpgnaaFpPgH
import Derived.Test.YtgfmpkcgkjpgnaaGood
import Derived.Test.YtgfmpkcgkjpgnaaFi6
section
namespace Go.Proofs.Ytgfmpkcgkjpgnaa
open Go.ChangeShapes Go.WideShapes Go.ChangeAt Go.RowKit Agg Pg

theorem fits_bytes : ∀ (n : Nat) (cs : List Value), Agg.Fits (List.replicate n (some .u8)) cs → ∃ l : List UInt8, l.length = n ∧ cs = bv l
  | 0, cs, h => ⟨[], rfl, h.nil⟩
  | n + 1, cs, h => by
    rw [List.replicate_succ] at h
    obtain ⟨x, r, rfl, ⟨z, rfl, hz⟩, h2⟩ := Agg.Fits.cons h
    obtain ⟨l, hl, rfl⟩ := fits_bytes n r h2
    simp only [Lit.wf, Bool.and_eq_true, IntKind.min, IntKind.max, IntKind.signed, IntKind.bits] at hz
    have hz2 : 0 ≤ z ∧ z ≤ 255 := by simpa using hz
    refine ⟨UInt8.ofNat z.toNat :: l, by simp [hl], ?_⟩
    have e : ((UInt8.ofNat z.toNat).toNat : Int) = z := by rw [UInt8.toNat_ofNat']; omega
    simp only [bv, List.map_cons, e]
theorem fits_secs : ∀ (n : Nat) (cs : List Value), Agg.Fits (List.replicate n ksSec).flatten cs → ∃ b : List Sec, b.length = n ∧ cs = blkC b ∧ ∀ s ∈ b, s.2.length = 32 ∧ s.1 < 18446744073709551616
  | 0, cs, h => ⟨[], rfl, h.nil, fun s hs => by cases hs⟩
  | n + 1, cs, h => by
    rw [List.replicate_succ, List.flatten_cons] at h
    obtain ⟨h1, h2⟩ := Agg.Fits.cut h
    obtain ⟨b, hb, hc, hok⟩ := fits_secs n _ h2
    obtain ⟨x, r, he, ⟨z, rfl, hz⟩, h3⟩ := Agg.Fits.cons h1
    obtain ⟨l, hl, rfl⟩ := fits_bytes 32 r h3
    simp only [Lit.wf, Bool.and_eq_true, IntKind.min, IntKind.max, IntKind.signed, IntKind.bits] at hz
    have hz2 : 0 ≤ z ∧ z ≤ 18446744073709551615 := by simpa using hz
    refine ⟨(z.toNat, l) :: b, by simp [hb], ?_, ?_⟩
    · rw [blkC_cons, ← hc, secC]
      have e : ((z.toNat : Nat) : Int) = z := by omega
      simp only [e]
      rw [← he, List.take_append_drop]
    · intro s hs
      rcases List.mem_cons.1 hs with rfl | h
      · exact ⟨hl, by simp only; omega⟩
      · exact hok s h
theorem good_block {w : World} {fuel : Nat} {cs : List Value} (h : Agg.Good Try.prog w fuel 64 cs) : ∃ b, cs = blkC b ∧ BOk b := by
  have hf := good_fits fuel 5 64 ksBlk cs (by kernel_rfl) h
  obtain ⟨b, h1, h2, h3⟩ := fits_secs 4 cs hf
  exact ⟨b, h2, h1, h3⟩
theorem good_i64 {w : World} {fuel : Nat} {v : Value} (h : Agg.Good Try.prog w fuel 3 [v]) : ∃ z : Int, v = .int .i64 z ∧ -9223372036854775808 ≤ z ∧ z ≤ 9223372036854775807 := by
  have hf := good_fits fuel 1 3 [some .i64] [v] (by kernel_rfl) h
  obtain ⟨x, r, he, ⟨z, rfl, hz⟩, _⟩ := Agg.Fits.cons hf
  simp only [List.cons.injEq] at he
  simp only [Lit.wf, Bool.and_eq_true, decide_eq_true_eq, IntKind.min, IntKind.max, IntKind.signed, IntKind.bits] at hz
  exact ⟨z, he.1, by simpa using hz⟩
set_option maxRecDepth 100000 in
theorem good_page {w : World} {fuel : Nat} {c : Array Value} (h : Agg.Good Try.prog w fuel 101 c.toList) : ∃ (kind : Int) (dv : Value) (d : List UInt8), c = #[.int .i64 kind, dv] ∧ Bytes w dv d ∧ -9223372036854775808 ≤ kind ∧ kind ≤ 9223372036854775807 := by
  cases fuel with
  | zero => exact h.elim
  | succ n =>
    unfold Agg.Good at h
    rw [Try.underlying101] at h
    simp only at h
    obtain ⟨hl, hf⟩ := h
    have h0 : Agg.Good Try.prog w n 3 ((c.toList.drop 0).take (Try.prog.cellsOf 3)) := hf 0 _ rfl
    have h1 : Agg.Good Try.prog w n 39 ((c.toList.drop 1).take (Try.prog.cellsOf 39)) := hf 1 _ rfl
    have e0 : Try.prog.cellsOf 3 = 1 := by kernel_rfl
    have e1 : Try.prog.cellsOf 39 = 1 := by kernel_rfl
    have e2 : Try.prog.cellsOf 101 = 2 := by kernel_rfl
    rw [e0] at h0
    rw [e1] at h1
    rw [e2] at hl
    obtain ⟨l, hcl⟩ : ∃ l, l = c.toList := ⟨_, rfl⟩
    rw [← hcl] at hl h0 h1
    match l, hl with
    | [a, b], _ =>
      obtain ⟨z, rfl, hz1, hz2⟩ := good_i64 h0
      obtain ⟨d, hd, _⟩ := good_bytes Try.underlying39 Try.underlying5 (by kernel_rfl) h1
      exact ⟨z, b, d, (Array.toList_inj.1 hcl).symm, hd, hz1, hz2⟩
theorem good_blks {w : World} {fuel : Nat} {v : Value} (h : Agg.Good Try.prog w fuel 43 [v]) : ∃ l : List (List Sec), Blks w v l ∧ (∀ b ∈ l, BOk b) ∧ l.length ≤ maxLen := by
  obtain ⟨l, h1, h2, h3⟩ := good_sl (α := {b : List Sec // BOk b}) Try.underlying43 (sz := 132) (by kernel_rfl) (fun b => blkC b.1) (fun _ => True) (fun b => bok_cells b.2) (fun f cs hg => by
    obtain ⟨b, h1, h2⟩ := good_block hg
    exact ⟨⟨b, h2⟩, h1, trivial⟩) h
  refine ⟨l.map (·.1), ?_, fun b hb => ?_, by simpa using h3⟩
  · show SlR _ _ _ _ _
    rw [List.length_map, List.flatMap_map]; exact h1
  · obtain ⟨x, _, rfl⟩ := List.mem_map.1 hb
    exact x.2
end Go.Proofs.Ytgfmpkcgkjpgnaa
end
section
/-
  FILES: which files may be laid; a file's parts.
-/
namespace Go.Proofs.Ytgfmpkcgkjpgnaa
open Go.ChangeShapes Go.WideShapes Go.ChangeAt Go.RowKit Agg Pg Dv Fi
attribute [local go_sem] Oper.semAt_some

theorem fo_FLaid_0 : Agg.fieldOff Try.prog 92 0 = some 0 := by kernel_rfl
theorem fo_FLaid_1 : Agg.fieldOff Try.prog 92 1 = some 4 := by kernel_rfl
theorem fo_FLaid_2 : Agg.fieldOff Try.prog 92 2 = some 5 := by kernel_rfl
/-- are these pages of a device's heap, each once? -/
def okA (np : Nat) : List Int → List Int → Bool
  | _, [] => true
  | pre, a :: l => decide (18 ≤ a) && decide (a < np) && markB pre a && okA np (pre ++ [a]) l
def mayB (A : List Int) (kind bytes : Int) (np : Nat) : Bool := decide (1 ≤ bytes) && decide ((A.length : Int) = needN bytes) && (decide (kind = 3) || decide (kind = 4)) && okA np [] A
theorem okA_step (np : Nat) (A : List Int) (k : Nat) (h : k < A.length) : okA np (A.take k) (A.drop k) = (decide (18 ≤ A[k]) && decide (A[k] < np) && markB (A.take k) A[k] && okA np (A.take (k + 1)) (A.drop (k + 1))) := by
  rw [List.drop_eq_getElem_cons h, okA, List.take_succ_eq_append_getElem h]
/-- what a file that is to be laid holds -/
abbrev LaidV (px cx ax : Option Addr) (np pc nc cc na ac : Nat) (z : Int) (q : Bool) (kind : Int) : List Value := [.slice px np pc, .slice cx nc cc, .int .i64 z, .bool q, .slice ax na ac, .int .i64 kind]
set_option maxHeartbeats 4000000 in
set_option maxRecDepth 100000 in
theorem may_any (A : List Int) (px cx ax : Option Addr) (np pc nc cc ac : Nat) (z : Int) (o : Bool) (kind bytes : Int) (kl : Nat) (w : World) (hk : Blk w kl 92 (LaidV px cx ax np pc nc cc A.length ac z o kind)) (hA : Ints w (.slice ax A.length ac) A) (hb1 : -9223372036854775808 ≤ bytes) (hb2 : bytes ≤ 9223372036854775807) (r : Bool) (hr : mayB A kind bytes np = r) :
    Calls Try.prog 70 #[.pointer (some ⟨kl, 0, none⟩), .int .i64 bytes] w fun e w' => e = .returned (.bool r) ∧ Below w.heap.size w w' := by
  have HK := Lib.hid hk
  have HA := Lib.hid hA
  have HA0 := HA
  have hln := hA.len
  obtain ⟨q0, hq0⟩ : ∃ q, (decide (1 ≤ bytes) && decide ((A.length : Int) = needN bytes) && (decide (kind = 3) || decide (kind = 4))) = q := ⟨_, rfl⟩
  have hr2 : r = (q0 && okA np [] A) := by rw [← hr, ← hq0]; rfl
  have HR := Lib.hid hr2
  have HQ0 := Lib.hid hq0
  clear hk hA hr hr2 hq0
  have HB := Lib.hid (Below.refl w.heap.size w)
  go_enter Try.func70, Try.ntmps70
  have HNE := Lib.hid (fun W => need_any bytes hb1 hb2 W)
  obtain ⟨nd, hnd⟩ : ∃ n, needN bytes = n := ⟨_, rfl⟩
  rw [hnd] at HNE HQ0
  clear hnd
  go_upto_region 1 with (fail)
  go_cut [33] from 8 to 33 (fun s wx => s = .bool (!q0) ∧ Below w.heap.size w wx)
  case first =>
    by_cases h1 : bytes < 1
    · have hq : q0 = false := by rw [← HQ0.out, decide_eq_false (by omega)]; rfl
      have HQF := Lib.hid hq
      clear hq
      refine Agg.chainR 26 (by kernel_rfl) (by kernel_rfl) ?_
      simp only [List.take_succ_cons, List.take_zero, List.drop_succ_cons, List.drop_zero]
      refine Agg.chMove rfl rfl rfl rfl ?_
      refine Agg.chLt true (decide_eq_true h1) rfl rfl rfl rfl rfl ?_
      refine Agg.chMove rfl rfl rfl rfl ?_
      refine Agg.chSkip rfl rfl ?_
      refine Agg.chSkip rfl rfl ?_
      refine Agg.chSkip rfl rfl ?_
      refine Agg.chSkip rfl rfl ?_
      refine Agg.chSkip rfl rfl ?_
      refine Agg.chSkip rfl rfl ?_
      refine Agg.chSkip rfl rfl ?_
      refine Agg.chSkip rfl rfl ?_
      refine Agg.chPick rfl rfl rfl rfl rfl ?_
      refine Agg.chMove rfl rfl rfl rfl ?_
      refine Agg.chSkip rfl rfl ?_
      refine Agg.chSkip rfl rfl ?_
      refine Agg.chSkip rfl rfl ?_
      refine Agg.chSkip rfl rfl ?_
      refine Agg.chSkip rfl rfl ?_
      refine Agg.chSkip rfl rfl ?_
      refine Agg.chSkip rfl rfl ?_
      refine Agg.chSkip rfl rfl ?_
      refine Agg.chSkip rfl rfl ?_
      refine Agg.chSkip rfl rfl ?_
      refine Agg.chSkip rfl rfl ?_
      refine Agg.chSkip rfl rfl ?_
      refine Agg.chPick rfl rfl rfl rfl rfl ?_
      refine Agg.chEnd ?_
      intro vs w1 hb _
      refine Agg.wpNil ?_
      simp only [List.reverse, List.reverseAux, Agg.fill, List.set_cons_succ, List.set_cons_zero]
      replace HB := Lib.hid (HB.out.trans (hb.mono HB.out.size))
      replace HK := Lib.hid (HK.out.keep hb)
      replace HA := Lib.hid (HA.out.keep hb)
      clear hb
      go_wp2_with fail
      go_meet
      exact ⟨by rw [HQF.out]; rfl, HB.out⟩
    · have h1b := h1
      by_cases h2 : (A.length : Int) = nd
      · have h2b := h2
        by_cases h3 : kind = 3
        · have HQX : Hid (q0 = true) := Lib.hid (by rw [← HQ0.out, decide_eq_true (show 1 ≤ bytes by omega), decide_eq_true h2, decide_eq_true h3]; rfl)
          refine Agg.chainR 26 (by kernel_rfl) (by kernel_rfl) ?_
          simp only [List.take_succ_cons, List.take_zero, List.drop_succ_cons, List.drop_zero]
          refine Agg.chMove rfl rfl rfl rfl ?_
          refine Agg.chLt false (decide_eq_false h1) rfl rfl rfl rfl rfl ?_
          refine Agg.chMove rfl rfl rfl rfl ?_
          refine Agg.chMove rfl rfl rfl rfl ?_
          refine Agg.chNil rfl rfl rfl rfl ?_
          refine Agg.chFA fo_FLaid_1 rfl rfl rfl rfl ?_
          refine Agg.chLoadB HK.out (by decide +kernel) rfl rfl (by rfl) rfl rfl ?_
          refine Agg.chLen Try.underlying22 rfl rfl rfl rfl ?_
          refine Agg.chMove rfl rfl rfl rfl ?_
          refine Agg.chCall Try.func16 rfl (by kernel_rfl) rfl rfl rfl rfl (fun W hb => HNE.out W) ?_
          refine Agg.chNe false (by simp [h2]) rfl rfl rfl rfl rfl ?_
          refine Agg.chPick rfl rfl rfl rfl rfl ?_
          refine Agg.chMove rfl rfl rfl rfl ?_
          refine Agg.chMove rfl rfl rfl rfl ?_
          refine Agg.chNil rfl rfl rfl rfl ?_
          refine Agg.chFA fo_FLaid_2 rfl rfl rfl rfl ?_
          refine Agg.chLoadB HK.out (by decide +kernel) rfl rfl (by rfl) rfl rfl ?_
          refine Agg.chNe false (by simp [h3]) rfl rfl rfl rfl rfl ?_
          refine Agg.chMove rfl rfl rfl rfl ?_
          refine Agg.chSkip rfl rfl ?_
          refine Agg.chSkip rfl rfl ?_
          refine Agg.chSkip rfl rfl ?_
          refine Agg.chSkip rfl rfl ?_
          refine Agg.chSkip rfl rfl ?_
          refine Agg.chPick rfl rfl rfl rfl rfl ?_
          refine Agg.chPick rfl rfl rfl rfl rfl ?_
          refine Agg.chEnd ?_
          intro vs w2 hb _
          refine Agg.wpNil ?_
          simp only [List.reverse, List.reverseAux, Agg.fill, List.set_cons_succ, List.set_cons_zero]
          replace HB := Lib.hid (HB.out.trans (hb.mono HB.out.size))
          replace HK := Lib.hid (HK.out.keep hb)
          replace HA := Lib.hid (HA.out.keep hb)
          clear hb
          go_wp2_with fail
          go_meet
          exact ⟨by rw [HQX.out]; rfl, HB.out⟩
        · have h3b := h3
          by_cases h4 : kind = 4
          · have HQX : Hid (q0 = true) := Lib.hid (by rw [← HQ0.out, decide_eq_true (show 1 ≤ bytes by omega), decide_eq_true h2, decide_eq_true h4, Bool.or_true]; rfl)
            refine Agg.chainR 26 (by kernel_rfl) (by kernel_rfl) ?_
            simp only [List.take_succ_cons, List.take_zero, List.drop_succ_cons, List.drop_zero]
            refine Agg.chMove rfl rfl rfl rfl ?_
            refine Agg.chLt false (decide_eq_false h1) rfl rfl rfl rfl rfl ?_
            refine Agg.chMove rfl rfl rfl rfl ?_
            refine Agg.chMove rfl rfl rfl rfl ?_
            refine Agg.chNil rfl rfl rfl rfl ?_
            refine Agg.chFA fo_FLaid_1 rfl rfl rfl rfl ?_
            refine Agg.chLoadB HK.out (by decide +kernel) rfl rfl (by rfl) rfl rfl ?_
            refine Agg.chLen Try.underlying22 rfl rfl rfl rfl ?_
            refine Agg.chMove rfl rfl rfl rfl ?_
            refine Agg.chCall Try.func16 rfl (by kernel_rfl) rfl rfl rfl rfl (fun W hb => HNE.out W) ?_
            refine Agg.chNe false (by simp [h2]) rfl rfl rfl rfl rfl ?_
            refine Agg.chPick rfl rfl rfl rfl rfl ?_
            refine Agg.chMove rfl rfl rfl rfl ?_
            refine Agg.chMove rfl rfl rfl rfl ?_
            refine Agg.chNil rfl rfl rfl rfl ?_
            refine Agg.chFA fo_FLaid_2 rfl rfl rfl rfl ?_
            refine Agg.chLoadB HK.out (by decide +kernel) rfl rfl (by rfl) rfl rfl ?_
            refine Agg.chNe true (bne_iff_ne.2 h3) rfl rfl rfl rfl rfl ?_
            refine Agg.chMove rfl rfl rfl rfl ?_
            refine Agg.chMove rfl rfl rfl rfl ?_
            refine Agg.chNil rfl rfl rfl rfl ?_
            refine Agg.chFA fo_FLaid_2 rfl rfl rfl rfl ?_
            refine Agg.chLoadB HK.out (by decide +kernel) rfl rfl (by rfl) rfl rfl ?_
            refine Agg.chNe false (by simp [h4]) rfl rfl rfl rfl rfl ?_
            refine Agg.chPick rfl rfl rfl rfl rfl ?_
            refine Agg.chPick rfl rfl rfl rfl rfl ?_
            refine Agg.chEnd ?_
            intro vs w3 hb _
            refine Agg.wpNil ?_
            simp only [List.reverse, List.reverseAux, Agg.fill, List.set_cons_succ, List.set_cons_zero]
            replace HB := Lib.hid (HB.out.trans (hb.mono HB.out.size))
            replace HK := Lib.hid (HK.out.keep hb)
            replace HA := Lib.hid (HA.out.keep hb)
            clear hb
            go_wp2_with fail
            go_meet
            exact ⟨by rw [HQX.out]; rfl, HB.out⟩
          · have HQX : Hid (q0 = false) := Lib.hid (by rw [← HQ0.out, decide_eq_false h3, decide_eq_false h4, Bool.or_false, Bool.and_false])
            refine Agg.chainR 26 (by kernel_rfl) (by kernel_rfl) ?_
            simp only [List.take_succ_cons, List.take_zero, List.drop_succ_cons, List.drop_zero]
            refine Agg.chMove rfl rfl rfl rfl ?_
            refine Agg.chLt false (decide_eq_false h1) rfl rfl rfl rfl rfl ?_
            refine Agg.chMove rfl rfl rfl rfl ?_
            refine Agg.chMove rfl rfl rfl rfl ?_
            refine Agg.chNil rfl rfl rfl rfl ?_
            refine Agg.chFA fo_FLaid_1 rfl rfl rfl rfl ?_
            refine Agg.chLoadB HK.out (by decide +kernel) rfl rfl (by rfl) rfl rfl ?_
            refine Agg.chLen Try.underlying22 rfl rfl rfl rfl ?_
            refine Agg.chMove rfl rfl rfl rfl ?_
            refine Agg.chCall Try.func16 rfl (by kernel_rfl) rfl rfl rfl rfl (fun W hb => HNE.out W) ?_
            refine Agg.chNe false (by simp [h2]) rfl rfl rfl rfl rfl ?_
            refine Agg.chPick rfl rfl rfl rfl rfl ?_
            refine Agg.chMove rfl rfl rfl rfl ?_
            refine Agg.chMove rfl rfl rfl rfl ?_
            refine Agg.chNil rfl rfl rfl rfl ?_
            refine Agg.chFA fo_FLaid_2 rfl rfl rfl rfl ?_
            refine Agg.chLoadB HK.out (by decide +kernel) rfl rfl (by rfl) rfl rfl ?_
            refine Agg.chNe true (bne_iff_ne.2 h3) rfl rfl rfl rfl rfl ?_
            refine Agg.chMove rfl rfl rfl rfl ?_
            refine Agg.chMove rfl rfl rfl rfl ?_
            refine Agg.chNil rfl rfl rfl rfl ?_
            refine Agg.chFA fo_FLaid_2 rfl rfl rfl rfl ?_
            refine Agg.chLoadB HK.out (by decide +kernel) rfl rfl (by rfl) rfl rfl ?_
            refine Agg.chNe true (bne_iff_ne.2 h4) rfl rfl rfl rfl rfl ?_
            refine Agg.chPick rfl rfl rfl rfl rfl ?_
            refine Agg.chPick rfl rfl rfl rfl rfl ?_
            refine Agg.chEnd ?_
            intro vs w4 hb _
            refine Agg.wpNil ?_
            simp only [List.reverse, List.reverseAux, Agg.fill, List.set_cons_succ, List.set_cons_zero]
            replace HB := Lib.hid (HB.out.trans (hb.mono HB.out.size))
            replace HK := Lib.hid (HK.out.keep hb)
            replace HA := Lib.hid (HA.out.keep hb)
            clear hb
            go_wp2_with fail
            go_meet
            exact ⟨by rw [HQX.out]; rfl, HB.out⟩
      · have HQX : Hid (q0 = false) := Lib.hid (by rw [← HQ0.out, decide_eq_false h2, Bool.and_false]; rfl)
        refine Agg.chainR 26 (by kernel_rfl) (by kernel_rfl) ?_
        simp only [List.take_succ_cons, List.take_zero, List.drop_succ_cons, List.drop_zero]
        refine Agg.chMove rfl rfl rfl rfl ?_
        refine Agg.chLt false (decide_eq_false h1) rfl rfl rfl rfl rfl ?_
        refine Agg.chMove rfl rfl rfl rfl ?_
        refine Agg.chMove rfl rfl rfl rfl ?_
        refine Agg.chNil rfl rfl rfl rfl ?_
        refine Agg.chFA fo_FLaid_1 rfl rfl rfl rfl ?_
        refine Agg.chLoadB HK.out (by decide +kernel) rfl rfl (by rfl) rfl rfl ?_
        refine Agg.chLen Try.underlying22 rfl rfl rfl rfl ?_
        refine Agg.chMove rfl rfl rfl rfl ?_
        refine Agg.chCall Try.func16 rfl (by kernel_rfl) rfl rfl rfl rfl (fun W hb => HNE.out W) ?_
        refine Agg.chNe true (bne_iff_ne.2 h2) rfl rfl rfl rfl rfl ?_
        refine Agg.chPick rfl rfl rfl rfl rfl ?_
        refine Agg.chMove rfl rfl rfl rfl ?_
        refine Agg.chSkip rfl rfl ?_
        refine Agg.chSkip rfl rfl ?_
        refine Agg.chSkip rfl rfl ?_
        refine Agg.chSkip rfl rfl ?_
        refine Agg.chSkip rfl rfl ?_
        refine Agg.chSkip rfl rfl ?_
        refine Agg.chSkip rfl rfl ?_
        refine Agg.chSkip rfl rfl ?_
        refine Agg.chSkip rfl rfl ?_
        refine Agg.chSkip rfl rfl ?_
        refine Agg.chSkip rfl rfl ?_
        refine Agg.chSkip rfl rfl ?_
        refine Agg.chPick rfl rfl rfl rfl rfl ?_
        refine Agg.chEnd ?_
        intro vs w5 hb _
        refine Agg.wpNil ?_
        simp only [List.reverse, List.reverseAux, Agg.fill, List.set_cons_succ, List.set_cons_zero]
        replace HB := Lib.hid (HB.out.trans (hb.mono HB.out.size))
        replace HK := Lib.hid (HK.out.keep hb)
        replace HA := Lib.hid (HA.out.keep hb)
        clear hb
        go_wp2_with fail
        go_meet
        exact ⟨by rw [HQX.out]; rfl, HB.out⟩
  case rest =>
    obtain ⟨rfl, hwx⟩ := hcut
    have HKc := Lib.hid (HK.out.keep hwx)
    have HAc := Lib.hid (SlR.keep HA.out hwx)
    have HBc := Lib.hid hwx
    clear hwx HNE HQ0 HK HA HB
    cases q0
    · have HRF : Hid (r = false) := Lib.hid (by rw [HR.out]; rfl)
      rw [show (!false) = true from rfl]
      go_wp2_with fail
      go_ret
      exact ⟨by rw [HRF.out]; rfl, HBc.out⟩
    · have HRT : Hid (r = okA np [] A) := Lib.hid (by rw [HR.out, Bool.true_and])
      rw [show (!true) = false from rfl]
      clear HR
      have HK := HKc
      have HA := HAc
      have HB := HBc
      clear HKc HAc HBc
      have hwc := HB.out.size
      have hkl := HK.out.lt
      go_upto_region 4 with (refine Agg.allocRow 119 (marksC []).toArray rfl rfl (by kernel_rfl) ?_; simp only [Act.put, List.setIfInBounds_toArray, List.set_cons_succ, List.set_cons_zero])
      refine Agg.wp_at fun w21 hw21 => ?_
      have hb : Below wc.heap.size wc w21 := by rw [hw21.out]; repeat (first | exact Below.refl _ _ | refine Agg.bel_drew ?_ | refine Agg.bel_alloc ?_ _)
      replace HB := Lib.hid (HB.out.trans (hb.mono HB.out.size))
      replace HK := Lib.hid (HK.out.keep hb)
      replace HA := Lib.hid (HA.out.keep hb)
      clear hb
      have HM : Hid (Blk w21 wc.heap.size 119 (marksC [])) := by show Blk _ _ _ _; rw [hw21.out]; exact Blk.new wc 119 (marksC []).toArray
      clear hw21
      obtain ⟨wD, hwD⟩ : ∃ x, x = wc := ⟨_, rfl⟩
      obtain ⟨km, hkm⟩ : ∃ n, wc.heap.size = n := ⟨_, rfl⟩
      have hwkm : w.heap.size ≤ km := by omega
      rw [hkm] at HM hkl ⊢
      clear hkm hwD hwc
      obtain ⟨wZ, hwZ⟩ : ∃ x, x = w21 := ⟨_, rfl⟩
      subst hwZ
      have k4 := HK.out.cell 4
      simp only [List.getElem?_cons_succ, List.getElem?_cons_zero] at k4
      have HKZ := HK
      have HAZ := HA
      have HBZ := HB
      clear HK HA HB
      go_wp2_with fail
      go_loopw [39] (fun ix wr => ∃ (k : Nat), k ≤ A.length ∧ ix = .int .i64 k ∧ okA np (A.take k) (A.drop k) = r ∧ Blk wr km 119 (marksC (A.take k)) ∧ Below km wZ wr) (fun ix _ => A.length - (intOf ix).toNat)
      case atStart => exact ⟨0, by omega, rfl, HRT.out.symm, HM.out, Below.refl _ _⟩
      case round =>
        obtain ⟨k, hk, rfl, ho, hm, hb⟩ := hrel
        have HO := Lib.hid ho
        have HM2 := Lib.hid hm
        have HFZ := Lib.hid hb
        have HK := Lib.hid (blk_below HKZ.out hb hkl)
        have HB := Lib.hid (HBZ.out.trans (hb.mono hwkm))
        have HA := Lib.hid (SlR.keep HA0.out HB.out)
        clear ho hm hb HM
        obtain ⟨wA, hwA⟩ : ∃ x, x = wr := ⟨_, rfl⟩
        subst hwA
        by_cases hlt : k < A.length
        · obtain ⟨b, of, cap', hve, _, _, _, _⟩ := SlR.pos HA.out (by decide) (by omega)
          simp only [Value.slice.injEq, true_and] at hve
          obtain ⟨rfl, rfl⟩ := hve
          have hcell := ints_at HA.out hlt
          have hst := okA_step np A k hlt
          rw [HO.out] at hst
          have hsn := List.take_succ_eq_append_getElem hlt
          obtain ⟨a, ha⟩ : ∃ y, A[k] = y := ⟨_, rfl⟩
          rw [ha] at hcell hst hsn
          have HST := Lib.hid hst
          have HSN := Lib.hid hsn
          clear hst hsn ha HO
          have k0 := HK.out.cell 0
          simp only [List.getElem?_cons_zero] at k0
          by_cases h1 : a < 18
          · have HRF : Hid (r = false) := Lib.hid (by rw [HST.out, decide_eq_false (by omega)]; rfl)
            go_wp2_with fail
            go_ret
            exact ⟨by first | rfl | (rw [HRF.out]; rfl), HB.out⟩
          · by_cases h2 : a ≥ np
            · have HRF : Hid (r = false) := Lib.hid (by rw [HST.out, decide_eq_false (show ¬ a < np by omega), Bool.and_false]; rfl)
              go_wp2_with fail
              go_ret
              exact ⟨by first | rfl | (rw [HRF.out]; rfl), HB.out⟩
            · obtain ⟨mq, hmq⟩ : ∃ q, markB (A.take k) a = q := ⟨_, rfl⟩
              have HMQ := Lib.hid hmq
              clear hmq
              go_wp2_with fail
              refine (mark_any (A.take k) a km wA HM2.out mq HMQ.out).mono ?_
              rintro e w9 ⟨rfl, hm9, hb9⟩
              have HM9 := Lib.hid hm9
              have HF9 := Lib.hid (HFZ.out.trans hb9)
              have HB9 := Lib.hid (HB.out.trans (hb9.mono hwkm))
              clear hm9 hb9
              rw [← HSN.out] at HM9
              cases mq
              · have HRF : Hid (r = false) := Lib.hid (by rw [HST.out, HMQ.out, Bool.and_false]; rfl)
                go_wp2_with fail
                go_ret
                exact ⟨by first | rfl | (rw [HRF.out]; rfl), HB9.out⟩
              · have HRN : Hid (okA np (A.take (k + 1)) (A.drop (k + 1)) = r) := Lib.hid (by rw [HST.out, HMQ.out, decide_eq_true (by omega), decide_eq_true (show a < np by omega)]; rfl)
                go_wp2_with fail
                exact ⟨⟨k + 1, by omega, by go_num, HRN.out, HM9.out, HF9.out⟩, by simp [intOf]; omega⟩
        · obtain rfl : k = A.length := by omega
          have HRX : Hid (r = true) := Lib.hid (by rw [← HO.out, List.drop_length]; rfl)
          go_wp2_with fail
          go_ret
          exact ⟨by first | rfl | (rw [HRX.out]; rfl), HB.out⟩
end Go.Proofs.Ytgfmpkcgkjpgnaa
end
section
/-
  FILES: a file's parts.
-/
namespace Go.Proofs.Ytgfmpkcgkjpgnaa
open Go.ChangeShapes Go.WideShapes Go.ChangeAt Go.RowKit Agg Pg Dv Fi
attribute [local go_sem] Oper.semAt_some

def partB (l : List UInt8) (i : Nat) : List UInt8 := (l.drop (i * 120)).take 120
theorem bytes_part {w : World} {b o cap : Nat} {l : List UInt8} (h : Bytes w (.slice (some ⟨b, o, none⟩) l.length cap) l) (f m : Nat) (hf : f + m ≤ l.length) : Bytes w (.slice (some ⟨b, o + f, none⟩) m m) ((l.drop f).take m) := by
  have hl : ((l.drop f).take m).length = m := by rw [List.length_take, List.length_drop]; omega
  obtain ⟨h1, h2⟩ := h
  obtain ⟨_, _, e, hc1, hcm⟩ := SlR.shape (show SlR w _ 1 l.length (bv l) from ⟨h1, h2⟩)
  cases e
  rcases h2 with ⟨h3, _⟩ | ⟨p, cap', hv, h3, h4, h5⟩
  · cases h3
  · simp only [Value.slice.injEq, Option.some.injEq, true_and] at hv
    obtain ⟨rfl, rfl⟩ := hv
    refine ⟨by rw [bv_length, hl]; omega, .inr ⟨_, m, by rw [hl], by omega, by omega, fun j u hj => ?_⟩⟩
    have hj2 := (List.getElem?_eq_some_iff.1 hj).1
    rw [bv_length, hl] at hj2
    have := h5 (f + j) u (by
      unfold bv at hj ⊢
      rw [List.getElem?_map, List.getElem?_take, if_pos hj2, List.getElem?_drop] at hj
      rw [List.getElem?_map]; exact hj)
    rw [add_none] at this ⊢
    rw [← this]
    congr 2; omega
/-- a part, as a value -/
def partV (b o : Nat) (l : List UInt8) (i : Nat) : Value := .slice (some ⟨b, o + i * 120, none⟩) (min 120 (l.length - i * 120)) (min 120 (l.length - i * 120))
theorem partV_bytes {w : World} {b o cap : Nat} {l : List UInt8} (h : Bytes w (.slice (some ⟨b, o, none⟩) l.length cap) l) (i : Nat) : Bytes w (partV b o l i) (partB l i) := by
  by_cases hi : i * 120 ≤ l.length
  · have hpt := bytes_part h (i * 120) (min 120 (l.length - i * 120)) (by omega)
    have hpe : (l.drop (i * 120)).take (min 120 (l.length - i * 120)) = partB l i := by
      unfold partB
      rw [← List.length_drop, ← List.take_eq_take_min]
    rw [hpe] at hpt
    exact hpt
  · have hz : partB l i = [] := by unfold partB; rw [List.drop_eq_nil_of_le (by omega)]; rfl
    have hm : min 120 (l.length - i * 120) = 0 := by omega
    unfold partV
    rw [hz, hm]
    exact ⟨rfl, .inr ⟨_, 0, rfl, Nat.le_refl _, by unfold maxLen; omega, fun j u hj => by simp [bv] at hj⟩⟩
set_option maxHeartbeats 4000000 in
set_option maxRecDepth 100000 in
theorem part_any (l : List UInt8) (b o cap : Nat) (i : Nat) (w : World) (hb : Bytes w (.slice (some ⟨b, o, none⟩) l.length cap) l) (hi : i * 120 < l.length) (h2 : l.length ≤ 1000000) :
    Calls Try.prog 68 #[.slice (some ⟨b, o, none⟩) l.length cap, .int .i64 (i : Int)] w fun e w' => e = .returned (partV b o l i) ∧ Below w.heap.size w w' := by
  obtain ⟨_, _, e, hc1, hcm⟩ := SlR.shape hb
  cases e
  obtain ⟨m, hm⟩ : ∃ m, min 120 (l.length - i * 120) = m := ⟨_, rfl⟩
  unfold partV
  rw [hm]
  have hme : min ((i : Int) * 120 + 120) (l.length : Int) = ((i * 120 + m : Nat) : Int) := by omega
  have hfe : (i : Int) * 120 = ((i * 120 : Nat) : Int) := by omega
  obtain ⟨f, hf⟩ : ∃ f, i * 120 = f := ⟨_, rfl⟩
  rw [hf] at hfe hme hi hm ⊢
  have hfc : f < cap := by omega
  have hfl : f + m ≤ l.length := by omega
  clear hb hm
  have hmul : IntKind.i64.wrap ((i : Int) * 120) = (f : Int) := by rw [IntKind.wrap_i64]; omega
  have HB := Lib.hid (Below.refl w.heap.size w)
  go_enter Try.func68, Try.ntmps68
  go_upto_region 1 with (fail)
  refine Agg.listR 3 (by kernel_rfl) ?_
  simp only [List.take_succ_cons, List.take_zero, List.drop_succ_cons, List.drop_zero]
  refine Agg.chMove rfl rfl rfl rfl ?_
  refine Agg.chAr64 rfl rfl rfl rfl (by omega) (by omega) rfl rfl ?_
  refine Agg.chAssign rfl rfl rfl rfl ?_
  refine Agg.chEnd ?_
  intro vs w1 hb _
  show Exit.then _ _ Exit.normal _ _
  simp only [List.reverse, List.reverseAux, Agg.fill, List.set_cons_succ, List.set_cons_zero]
  replace HB := Lib.hid (HB.out.trans (hb.mono HB.out.size))
  clear hb
  rw [hfe]
  have hme2 : min ((f : Int) + 120) (l.length : Int) = ((f + m : Nat) : Int) := by rw [← hfe]; exact hme
  clear hme hfe hmul hf
  go_wp2_with (refine Agg.min2 _ _ _ ((f + m : Nat) : Int) rfl rfl rfl rfl hme2 ?_; simp only [Act.put, List.setIfInBounds_toArray, List.set_cons_succ, List.set_cons_zero])
  go_ret
  have hfm : f + m - f = m := Nat.add_sub_cancel_left ..
  exact ⟨by show Ending.returned (.slice (some ⟨b, o + f, none⟩) (f + m - f) (f + m - f)) = _; rw [hfm], HB.out⟩
end Go.Proofs.Ytgfmpkcgkjpgnaa
end
