/-
  DEVICES: what arguments of the statements hold.
-/
import Derived.Test.YtapdigcpaebjiaaDw2
import Derived.Test.YtapdigcpaebjiaaDv1
import Derived.Test.YtapdigcpaebjiaaOpen
namespace Go.Proofs.Ytapdigcpaebjiaa
open Go.ChangeShapes Go.WideShapes Go.ChangeAt Go.RowKit Agg Pg Dv

def FlOk (f : Fl) : Prop := f.Ok ∧ (Lit.int .i64 f.page).wf = true
theorem u64_nat {z : Int} (h : (Lit.int .u64 z).wf = true) : ∃ n : Nat, z = n ∧ n < 18446744073709551616 := by
  simp [Lit.wf, IntKind.min, IntKind.max, IntKind.signed, IntKind.bits] at h
  exact ⟨z.toNat, by omega, by omega⟩
theorem u8_byte {z : Int} (h : (Lit.int .u8 z).wf = true) : ∃ b : UInt8, z = b.toNat := by
  simp [Lit.wf, IntKind.min, IntKind.max, IntKind.signed, IntKind.bits] at h
  exact ⟨UInt8.ofNat z.toNat, by rw [UInt8.toNat_ofNat']; omega⟩
theorem good_fl {w : World} {fuel : Nat} {cs : List Value} (h : Agg.Good Try.prog w fuel 28 cs) : ∃ f : Fl, cs = flC f ∧ FlOk f := by
  have hf := good_fits fuel 5 28 [some .i64, some .u64, some .u64, some .u64, some .u64, some .u8] cs (by kernel_rfl) h
  obtain ⟨x, r, rfl, ⟨a, rfl, ha⟩, hf2⟩ := hf.cons
  obtain ⟨x1, r1, rfl, ⟨z1, rfl, h1⟩, hf3⟩ := hf2.cons
  obtain ⟨x2, r2, rfl, ⟨z2, rfl, h2⟩, hf4⟩ := hf3.cons
  obtain ⟨x3, r3, rfl, ⟨z3, rfl, h3⟩, hf5⟩ := hf4.cons
  obtain ⟨x4, r4, rfl, ⟨z4, rfl, h4⟩, hf6⟩ := hf5.cons
  obtain ⟨x5, r5, rfl, ⟨z5, rfl, h5⟩, hf7⟩ := hf6.cons
  rw [hf7.nil]
  obtain ⟨n1, rfl, l1⟩ := u64_nat h1
  obtain ⟨n2, rfl, l2⟩ := u64_nat h2
  obtain ⟨n3, rfl, l3⟩ := u64_nat h3
  obtain ⟨n4, rfl, l4⟩ := u64_nat h4
  obtain ⟨b, rfl⟩ := u8_byte h5
  refine ⟨⟨a, [n1, n2, n3, n4], b⟩, rfl, ⟨rfl, fun s hs => ?_⟩, ha⟩
  simp only [List.mem_cons, List.not_mem_nil, or_false] at hs
  rcases hs with rfl | rfl | rfl | rfl <;> assumption
theorem good_fls {w : World} {fuel : Nat} {v : Value} (h : Agg.Good Try.prog w fuel 22 [v]) : ∃ l : List Fl, Fls w v l ∧ ∀ f ∈ l, FlOk f := by
  obtain ⟨l, h1, _, _⟩ := good_sl (α := {f : Fl // FlOk f}) Try.underlying22 (sz := 6) (by kernel_rfl) (fun f => flC f.1) (fun _ => True) (fun f => flC_length f.2.1) (fun fu cs hg => by
    obtain ⟨f, h1, h2⟩ := good_fl hg
    exact ⟨⟨f, h2⟩, h1, trivial⟩) h
  refine ⟨l.map (·.1), ?_, fun f hf => ?_⟩
  · show SlR _ _ _ _ _
    rw [List.length_map, List.flatMap_map]; exact h1
  · obtain ⟨x, _, rfl⟩ := List.mem_map.1 hf
    exact x.2
theorem good_int {w : World} {fuel : Nat} {v : Value} (h : Agg.Good Try.prog w fuel 3 [v]) : ∃ z : Int, v = .int .i64 z ∧ (Lit.int .i64 z).wf = true := by
  have hf := good_fits fuel 1 3 [some .i64] [v] (by kernel_rfl) h
  obtain ⟨x, r, he, ⟨z, rfl, hz⟩, _⟩ := Agg.Fits.cons hf
  simp only [List.cons.injEq] at he
  exact ⟨z, he.1, hz⟩
theorem good_bool {w : World} {fuel : Nat} {v : Value} (h : Agg.Good Try.prog w fuel 4 [v]) : ∃ z : Bool, v = .bool z := by
  have hf := good_fits fuel 1 4 [none] [v] (by kernel_rfl) h
  obtain ⟨x, r, he, ⟨z, rfl⟩, _⟩ := Agg.Fits.cons hf
  simp only [List.cons.injEq] at he
  exact ⟨z, he.1⟩
theorem iC_flat : ∀ l : List Int, iC l = l.flatMap (fun z => [Value.int .i64 z])
  | [] => rfl
  | a :: r => by rw [List.flatMap_cons, ← iC_flat r]; rfl
theorem good_ints {w : World} {fuel : Nat} {v : Value} (h : Agg.Good Try.prog w fuel 29 [v]) : ∃ l : List Int, Ints w v l ∧ (∀ z ∈ l, (Lit.int .i64 z).wf = true) ∧ l.length ≤ maxLen := by
  obtain ⟨l, h1, h2, h3⟩ := good_sl (α := Int) Try.underlying29 (sz := 1) (by kernel_rfl) (fun z => [.int .i64 z]) (fun z => (Lit.int .i64 z).wf = true) (fun _ => rfl) (fun fu cs hg => by
    have hf := good_fits fu 1 3 [some .i64] cs (by kernel_rfl) hg
    obtain ⟨x, r, rfl, ⟨z, rfl, hz⟩, hf2⟩ := Agg.Fits.cons hf
    rw [hf2.nil]
    exact ⟨z, rfl, hz⟩) h
  refine ⟨l, ?_, h2, h3⟩
  show SlR _ _ _ _ _
  have e := iC_flat l
  rw [e]; exact h1
/-- a device that is told, in memory -/
def LaidOk (w : World) (x : LaidD) (fv cv : Value) : Prop := Fls w fv x.fills ∧ Fls w cv x.cache ∧ (∀ f ∈ x.fills, FlOk f) ∧ ∀ f ∈ x.cache, FlOk f
theorem LaidOk.keep {w w' : World} {x : LaidD} {fv cv : Value} (h : LaidOk w x fv cv) (hb : Below w.heap.size w w') : LaidOk w' x fv cv := ⟨SlR.keep h.1 hb, SlR.keep h.2.1 hb, h.2.2⟩
theorem good_laid {w : World} {fuel : Nat} {c : Array Value} (h : Agg.Good Try.prog w fuel 24 c.toList) : ∃ (x : LaidD) (fv cv : Value), c = (laidC x fv cv).toArray ∧ LaidOk w x fv cv := by
  cases fuel with
  | zero => exact h.elim
  | succ n =>
    unfold Agg.Good at h
    rw [Try.underlying24] at h
    simp only at h
    obtain ⟨hl, hf⟩ := h
    have h0 : Agg.Good Try.prog w n 3 ((c.toList.drop 0).take (Try.prog.cellsOf 3)) := hf 0 _ rfl
    have h1 : Agg.Good Try.prog w n 22 ((c.toList.drop 1).take (Try.prog.cellsOf 22)) := hf 1 _ rfl
    have h2 : Agg.Good Try.prog w n 22 ((c.toList.drop 2).take (Try.prog.cellsOf 22)) := hf 2 _ rfl
    have h3 : Agg.Good Try.prog w n 3 ((c.toList.drop 3).take (Try.prog.cellsOf 3)) := hf 3 _ rfl
    have h4 : Agg.Good Try.prog w n 4 ((c.toList.drop 4).take (Try.prog.cellsOf 4)) := hf 4 _ rfl
    have e0 : Try.prog.cellsOf 3 = 1 := by kernel_rfl
    have e1 : Try.prog.cellsOf 22 = 1 := by kernel_rfl
    have e3 : Try.prog.cellsOf 4 = 1 := by kernel_rfl
    have e2 : Try.prog.cellsOf 24 = 5 := by kernel_rfl
    rw [e0] at h0 h3
    rw [e1] at h1 h2
    rw [e3] at h4
    rw [e2] at hl
    obtain ⟨l, hcl⟩ : ∃ l, l = c.toList := ⟨_, rfl⟩
    rw [← hcl] at hl h0 h1 h2 h3 h4
    match l, hl with
    | [a, b, b2, f, o], _ =>
      obtain ⟨z, rfl, _⟩ := good_int h0
      obtain ⟨l1, hl1, ho1⟩ := good_fls h1
      obtain ⟨l2, hl2, ho2⟩ := good_fls h2
      obtain ⟨fu, rfl, _⟩ := good_int h3
      obtain ⟨q, rfl⟩ := good_bool h4
      exact ⟨⟨z, l1, l2, fu, q⟩, b, b2, (Array.toList_inj.1 hcl).symm, hl1, hl2, ho1, ho2⟩
/-- an op, in memory -/
def OpOk (w : World) (o : OpD) (mv : Value) : Prop := FlOk o.fl ∧ Ints w mv o.ms ∧ (Lit.int .i64 o.n).wf = true
theorem OpOk.keep {w w' : World} {o : OpD} {mv : Value} (h : OpOk w o mv) (hb : Below w.heap.size w w') : OpOk w' o mv := ⟨h.1, SlR.keep h.2.1 hb, h.2.2⟩
theorem good_opL {w : World} {fuel : Nat} {l : List Value} (h : Agg.Good Try.prog w fuel 31 l) : ∃ (o : OpD) (mv : Value), l = opC o mv ∧ OpOk w o mv := by
  cases fuel with
  | zero => exact h.elim
  | succ n =>
    unfold Agg.Good at h
    rw [Try.underlying31] at h
    simp only at h
    obtain ⟨hl, hf⟩ := h
    have h0 : Agg.Good Try.prog w n 3 ((l.drop 0).take (Try.prog.cellsOf 3)) := hf 0 _ rfl
    have h1 : Agg.Good Try.prog w n 28 ((l.drop 1).take (Try.prog.cellsOf 28)) := hf 1 _ rfl
    have h2 : Agg.Good Try.prog w n 3 ((l.drop 7).take (Try.prog.cellsOf 3)) := hf 2 _ rfl
    have h3 : Agg.Good Try.prog w n 29 ((l.drop 8).take (Try.prog.cellsOf 29)) := hf 3 _ rfl
    have e0 : Try.prog.cellsOf 3 = 1 := by kernel_rfl
    have e1 : Try.prog.cellsOf 28 = 6 := by kernel_rfl
    have e3 : Try.prog.cellsOf 29 = 1 := by kernel_rfl
    have e2 : Try.prog.cellsOf 31 = 9 := by kernel_rfl
    rw [e0] at h0 h2
    rw [e1] at h1
    rw [e3] at h3
    rw [e2] at hl
    match l, hl with
    | [a, f0, f1, f2, f3, f4, f5, b, m], _ =>
      obtain ⟨z, rfl, _⟩ := good_int h0
      obtain ⟨f, hfe, hfo⟩ := good_fl h1
      obtain ⟨k, rfl, hk⟩ := good_int h2
      obtain ⟨ms, hms, _, _⟩ := good_ints h3
      refine ⟨⟨z, f, k, ms⟩, m, ?_, hfo, hms, hk⟩
      have hfe : [f0, f1, f2, f3, f4, f5] = flC f := hfe
      show _ = Value.int .i64 z :: (flC f ++ [.int .i64 k, m])
      rw [← hfe]; rfl
theorem good_op {w : World} {fuel : Nat} {c : Array Value} (h : Agg.Good Try.prog w fuel 31 c.toList) : ∃ (o : OpD) (mv : Value), c = (opC o mv).toArray ∧ OpOk w o mv := by
  obtain ⟨o, mv, h1, h2⟩ := good_opL h
  exact ⟨o, mv, by rw [← h1], h2⟩
/-- ops in memory -/
def opsC (l : List (OpD × Value)) : List Value := l.flatMap fun x => opC x.1 x.2
def Opss (w : World) (v : Value) (l : List (OpD × Value)) : Prop := SlR w v 9 l.length (opsC l) ∧ ∀ x ∈ l, OpOk w x.1 x.2
theorem Opss.keep {w w' : World} {v : Value} {l : List (OpD × Value)} (h : Opss w v l) (hb : Below w.heap.size w w') : Opss w' v l := ⟨SlR.keep h.1 hb, fun x hx => (h.2 x hx).keep hb⟩
theorem good_ops {w : World} {fuel : Nat} {v : Value} (h : Agg.Good Try.prog w fuel 50 [v]) : ∃ l : List (OpD × Value), Opss w v l := by
  obtain ⟨l, h1, h2, _⟩ := good_sl (α := {x : OpD × Value // x.1.fl.Ok}) Try.underlying50 (sz := 9) (by kernel_rfl) (fun x => opC x.1.1 x.1.2) (fun x => OpOk w x.1.1 x.1.2) (fun x => opC_length x.2 _) (fun fu cs hg => by
    obtain ⟨o, mv, h1, h2⟩ := good_opL hg
    exact ⟨⟨(o, mv), h2.1.1⟩, h1, h2⟩) h
  refine ⟨l.map (·.1), ?_, fun x hx => ?_⟩
  · show SlR _ _ _ _ _
    unfold opsC
    rw [List.length_map, List.flatMap_map]; exact h1
  · obtain ⟨y, hy, rfl⟩ := List.mem_map.1 hx
    exact h2 y hy
end Go.Proofs.Ytapdigcpaebjiaa
