/-
  PAGES: what arguments of the statements hold: pages, blocks.
-/
import Derived.Test.YtoeofoihkkhpfaaPgH
import Derived.Test.YtoeofoihkkhpfaaOpen
namespace Go.Proofs.Ytoeofoihkkhpfaa
open Go.ChangeShapes Go.WideShapes Go.ChangeAt Go.RowKit Agg Pg

theorem fits_bytes : ∀ (n : Nat) (cs : List Value), Agg.Fits (List.replicate n (some .u8)) cs → ∃ l : List UInt8, l.length = n ∧ cs = bv l
  | 0, cs, h => ⟨[], rfl, h.nil⟩
  | n + 1, cs, h => by
    rw [List.replicate_succ] at h
    obtain ⟨x, r, rfl, ⟨z, rfl, hz⟩, h2⟩ := Agg.Fits.cons h
    obtain ⟨l, hl, rfl⟩ := fits_bytes n r h2
    simp only [Lit.wf, Bool.and_eq_true, IntKind.min, IntKind.max, IntKind.signed, IntKind.bits] at hz
    have hz2 : 0 ≤ z ∧ z ≤ 255 := by simpa using hz
    refine ⟨UInt8.ofNat z.toNat :: l, by simp [hl], ?_⟩
    have e : ((UInt8.ofNat z.toNat).toNat : Int) = z := by rw [UInt8.toNat_ofNat']; omega
    simp only [bv, List.map_cons, e]
theorem fits_secs : ∀ (n : Nat) (cs : List Value), Agg.Fits (List.replicate n ksSec).flatten cs → ∃ b : List Sec, b.length = n ∧ cs = blkC b ∧ ∀ s ∈ b, s.2.length = 32 ∧ s.1 < 18446744073709551616
  | 0, cs, h => ⟨[], rfl, h.nil, fun s hs => by cases hs⟩
  | n + 1, cs, h => by
    rw [List.replicate_succ, List.flatten_cons] at h
    obtain ⟨h1, h2⟩ := Agg.Fits.cut h
    obtain ⟨b, hb, hc, hok⟩ := fits_secs n _ h2
    obtain ⟨x, r, he, ⟨z, rfl, hz⟩, h3⟩ := Agg.Fits.cons h1
    obtain ⟨l, hl, rfl⟩ := fits_bytes 32 r h3
    simp only [Lit.wf, Bool.and_eq_true, IntKind.min, IntKind.max, IntKind.signed, IntKind.bits] at hz
    have hz2 : 0 ≤ z ∧ z ≤ 18446744073709551615 := by simpa using hz
    refine ⟨(z.toNat, l) :: b, by simp [hb], ?_, ?_⟩
    · rw [blkC_cons, ← hc, secC]
      have e : ((z.toNat : Nat) : Int) = z := by omega
      simp only [e]
      rw [← he, List.take_append_drop]
    · intro s hs
      rcases List.mem_cons.1 hs with rfl | h
      · exact ⟨hl, by simp only; omega⟩
      · exact hok s h
theorem good_block {w : World} {fuel : Nat} {cs : List Value} (h : Agg.Good Try.prog w fuel 36 cs) : ∃ b, cs = blkC b ∧ BOk b := by
  have hf := good_fits fuel 5 36 ksBlk cs (by kernel_rfl) h
  obtain ⟨b, h1, h2, h3⟩ := fits_secs 4 cs hf
  exact ⟨b, h2, h1, h3⟩
theorem good_i64 {w : World} {fuel : Nat} {v : Value} (h : Agg.Good Try.prog w fuel 3 [v]) : ∃ z : Int, v = .int .i64 z ∧ -9223372036854775808 ≤ z ∧ z ≤ 9223372036854775807 := by
  have hf := good_fits fuel 1 3 [some .i64] [v] (by kernel_rfl) h
  obtain ⟨x, r, he, ⟨z, rfl, hz⟩, _⟩ := Agg.Fits.cons hf
  simp only [List.cons.injEq] at he
  simp only [Lit.wf, Bool.and_eq_true, decide_eq_true_eq, IntKind.min, IntKind.max, IntKind.signed, IntKind.bits] at hz
  exact ⟨z, he.1, by simpa using hz⟩
theorem good_page {w : World} {fuel : Nat} {c : Array Value} (h : Agg.Good Try.prog w fuel 24 c.toList) : ∃ (kind : Int) (dv : Value) (d : List UInt8), c = #[.int .i64 kind, dv] ∧ Bytes w dv d ∧ -9223372036854775808 ≤ kind ∧ kind ≤ 9223372036854775807 := by
  cases fuel with
  | zero => exact h.elim
  | succ n =>
    unfold Agg.Good at h
    rw [Try.underlying24] at h
    simp only at h
    obtain ⟨hl, hf⟩ := h
    have h0 : Agg.Good Try.prog w n 3 ((c.toList.drop 0).take (Try.prog.cellsOf 3)) := hf 0 _ rfl
    have h1 : Agg.Good Try.prog w n 22 ((c.toList.drop 1).take (Try.prog.cellsOf 22)) := hf 1 _ rfl
    have e0 : Try.prog.cellsOf 3 = 1 := by kernel_rfl
    have e1 : Try.prog.cellsOf 22 = 1 := by kernel_rfl
    have e2 : Try.prog.cellsOf 24 = 2 := by kernel_rfl
    rw [e0] at h0
    rw [e1] at h1
    rw [e2] at hl
    obtain ⟨l, hcl⟩ : ∃ l, l = c.toList := ⟨_, rfl⟩
    rw [← hcl] at hl h0 h1
    match l, hl with
    | [a, b], _ =>
      obtain ⟨z, rfl, hz1, hz2⟩ := good_i64 h0
      obtain ⟨d, hd, _⟩ := good_bytes Try.underlying22 Try.underlying5 (by kernel_rfl) h1
      exact ⟨z, b, d, (Array.toList_inj.1 hcl).symm, hd, hz1, hz2⟩
theorem good_blks {w : World} {fuel : Nat} {v : Value} (h : Agg.Good Try.prog w fuel 51 [v]) : ∃ l : List (List Sec), Blks w v l ∧ (∀ b ∈ l, BOk b) ∧ l.length ≤ maxLen := by
  obtain ⟨l, h1, h2, h3⟩ := good_sl (α := {b : List Sec // BOk b}) Try.underlying51 (sz := 132) (by kernel_rfl) (fun b => blkC b.1) (fun _ => True) (fun b => bok_cells b.2) (fun f cs hg => by
    obtain ⟨b, h1, h2⟩ := good_block hg
    exact ⟨⟨b, h2⟩, h1, trivial⟩) h
  refine ⟨l.map (·.1), ?_, fun b hb => ?_, by simpa using h3⟩
  · show SlR _ _ _ _ _
    rw [List.length_map, List.flatMap_map]; exact h1
  · obtain ⟨x, _, rfl⟩ := List.mem_map.1 hb
    exact x.2
end Go.Proofs.Ytoeofoihkkhpfaa
