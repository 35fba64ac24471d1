/-
  THE LOG: what arguments of the statements hold: devices.
-/
import Derived.Test.YtlddjcilbpcciaaLhQ
import Derived.Test.YtlddjcilbpcciaaLFdDw3
namespace Go.Proofs.Ytlddjcilbpcciaa
open Go.ChangeShapes Go.WideShapes Go.ChangeAt Go.RowKit Agg Pg Dv Lg

theorem good_wr {w : World} {fuel : Nat} {cs : List Value} (h : Agg.Good Try.prog w fuel 78 cs) : ∃ x : Int × List Sec, cs = wrC x ∧ WOk x := by
  have hf := good_fits fuel 6 78 ksWr cs (by kernel_rfl) h
  obtain ⟨x, r, rfl, ⟨a, rfl, ha⟩, hf2⟩ := Agg.Fits.cons hf
  obtain ⟨b, h1, rfl, h3⟩ := fits_secs 4 r hf2
  exact ⟨(a, b), rfl, ha, h1, h3⟩
theorem good_wrs {w : World} {fuel : Nat} {v : Value} (h : Agg.Good Try.prog w fuel 26 [v]) : ∃ l : List (Int × List Sec), Wrs w v l ∧ ∀ x ∈ l, WOk x := by
  obtain ⟨l, h1, h2, h3⟩ := good_sl (α := {x : Int × List Sec // WOk x}) Try.underlying26 (sz := 133) (by kernel_rfl) (fun x => wrC x.1) (fun _ => True) (fun x => by
    show (_ :: blkC x.1.2).length = 133
    rw [List.length_cons, bok_cells x.2.2]) (fun f cs hg => by
    obtain ⟨x, h1, h2⟩ := good_wr hg
    exact ⟨⟨x, h2⟩, h1, trivial⟩) h
  refine ⟨l.map (·.1), ?_, fun b hb => ?_⟩
  · show SlR _ _ _ _ _
    rw [List.length_map, List.flatMap_map]; exact h1
  · obtain ⟨x, _, rfl⟩ := List.mem_map.1 hb
    exact x.2
set_option maxRecDepth 100000 in
theorem good_dev {w : World} {fuel : Nat} {c : Array Value} (h : Agg.Good Try.prog w fuel 28 c.toList) : ∃ d : Dev, DevR w (.agg c) d ∧ DevW d ∧ -9223372036854775808 ≤ d.fuse ∧ d.fuse ≤ 9223372036854775807 := by
  cases fuel with
  | zero => exact h.elim
  | succ n =>
    unfold Agg.Good at h
    rw [Try.underlying28] at h
    simp only at h
    obtain ⟨hl, hf⟩ := h
    have h1 : Agg.Good Try.prog w n 25 ((c.toList.drop 0).take (Try.prog.cellsOf 25)) := hf 0 _ rfl
    have h2 : Agg.Good Try.prog w n 26 ((c.toList.drop 1).take (Try.prog.cellsOf 26)) := hf 1 _ rfl
    have h4 : Agg.Good Try.prog w n 3 ((c.toList.drop 2).take (Try.prog.cellsOf 3)) := hf 2 _ rfl
    have h5 : Agg.Good Try.prog w n 4 ((c.toList.drop 3).take (Try.prog.cellsOf 4)) := hf 3 _ rfl
    have e0 : Try.prog.cellsOf 3 = 1 := by kernel_rfl
    have e1 : Try.prog.cellsOf 25 = 1 := by kernel_rfl
    have e3 : Try.prog.cellsOf 26 = 1 := by kernel_rfl
    have e4 : Try.prog.cellsOf 4 = 1 := by kernel_rfl
    have e2 : Try.prog.cellsOf 28 = 4 := by kernel_rfl
    rw [e0] at h4
    rw [e1] at h1
    rw [e3] at h2
    rw [e4] at h5
    rw [e2] at hl
    obtain ⟨l, hcl⟩ : ∃ l, l = c.toList := ⟨_, rfl⟩
    rw [← hcl] at hl h1 h2 h4 h5
    match l, hl with
    | [a, b, f, o], _ =>
      obtain ⟨P, hP, hPo, _⟩ := good_blks h1
      obtain ⟨C, hC, hCo⟩ := good_wrs h2
      obtain ⟨z, rfl, hz⟩ := good_i64 h4
      obtain ⟨q, rfl⟩ := good_bool h5
      have hP2 : Pgs w a P := hP
      obtain ⟨x, cx, rfl, _, _⟩ := hP2.shape
      have hC2 : Wrs w b C := hC
      obtain ⟨y, cy, rfl, _, _⟩ := hC2.shape
      exact ⟨⟨P, C, z, q⟩, ⟨x, y, cx, cy, by rw [← Array.toList_inj.1 hcl], hP2, hC2⟩, ⟨hPo, fun x hx => (hCo x hx).2, fun x hx => (hCo x hx).1⟩, hz⟩
end Go.Proofs.Ytlddjcilbpcciaa
