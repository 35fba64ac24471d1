/-
  DEVICES: what arguments of the statements hold.
-/
import Derived.Test.YtgfmpkcgkjpgnaaFi1
import Derived.Test.YtgfmpkcgkjpgnaaDv4
import Derived.Test.YtgfmpkcgkjpgnaaGood
import Derived.Test.YtgfmpkcgkjpgnaaFiZ
import Derived.Test.YtgfmpkcgkjpgnaaFk5
section
namespace Go.Proofs.Ytgfmpkcgkjpgnaa
open Go.ChangeShapes Go.WideShapes Go.ChangeAt Go.RowKit Agg Pg Dv

def FlOk (f : Fl) : Prop := f.Ok ∧ (Lit.int .i64 f.page).wf = true
theorem u64_nat {z : Int} (h : (Lit.int .u64 z).wf = true) : ∃ n : Nat, z = n ∧ n < 18446744073709551616 := by
  simp [Lit.wf, IntKind.min, IntKind.max, IntKind.signed, IntKind.bits] at h
  exact ⟨z.toNat, by omega, by omega⟩
theorem u8_byte {z : Int} (h : (Lit.int .u8 z).wf = true) : ∃ b : UInt8, z = b.toNat := by
  simp [Lit.wf, IntKind.min, IntKind.max, IntKind.signed, IntKind.bits] at h
  exact ⟨UInt8.ofNat z.toNat, by rw [UInt8.toNat_ofNat']; omega⟩
theorem good_int {w : World} {fuel : Nat} {v : Value} (h : Agg.Good Try.prog w fuel 3 [v]) : ∃ z : Int, v = .int .i64 z ∧ (Lit.int .i64 z).wf = true := by
  have hf := good_fits fuel 1 3 [some .i64] [v] (by kernel_rfl) h
  obtain ⟨x, r, he, ⟨z, rfl, hz⟩, _⟩ := Agg.Fits.cons hf
  simp only [List.cons.injEq] at he
  exact ⟨z, he.1, hz⟩
theorem good_bool {w : World} {fuel : Nat} {v : Value} (h : Agg.Good Try.prog w fuel 4 [v]) : ∃ z : Bool, v = .bool z := by
  have hf := good_fits fuel 1 4 [none] [v] (by kernel_rfl) h
  obtain ⟨x, r, he, ⟨z, rfl⟩, _⟩ := Agg.Fits.cons hf
  simp only [List.cons.injEq] at he
  exact ⟨z, he.1⟩
theorem iC_flat : ∀ l : List Int, iC l = l.flatMap (fun z => [Value.int .i64 z])
  | [] => rfl
  | a :: r => by rw [List.flatMap_cons, ← iC_flat r]; rfl
theorem good_ints {w : World} {fuel : Nat} {v : Value} (h : Agg.Good Try.prog w fuel 22 [v]) : ∃ l : List Int, Ints w v l ∧ (∀ z ∈ l, (Lit.int .i64 z).wf = true) ∧ l.length ≤ maxLen := by
  obtain ⟨l, h1, h2, h3⟩ := good_sl (α := Int) Try.underlying22 (sz := 1) (by kernel_rfl) (fun z => [.int .i64 z]) (fun z => (Lit.int .i64 z).wf = true) (fun _ => rfl) (fun fu cs hg => by
    have hf := good_fits fu 1 3 [some .i64] cs (by kernel_rfl) hg
    obtain ⟨x, r, rfl, ⟨z, rfl, hz⟩, hf2⟩ := Agg.Fits.cons hf
    rw [hf2.nil]
    exact ⟨z, rfl, hz⟩) h
  refine ⟨l, ?_, h2, h3⟩
  show SlR _ _ _ _ _
  have e := iC_flat l
  rw [e]; exact h1
/-- a device that is told, in memory -/
def LaidOk (w : World) (x : LaidD) (fv cv : Value) : Prop := Fls w fv x.fills ∧ Fls w cv x.cache ∧ (∀ f ∈ x.fills, FlOk f) ∧ ∀ f ∈ x.cache, FlOk f
theorem LaidOk.keep {w w' : World} {x : LaidD} {fv cv : Value} (h : LaidOk w x fv cv) (hb : Below w.heap.size w w') : LaidOk w' x fv cv := ⟨SlR.keep h.1 hb, SlR.keep h.2.1 hb, h.2.2⟩
/-- an op, in memory -/
def OpOk (w : World) (o : OpD) (mv : Value) : Prop := FlOk o.fl ∧ Ints w mv o.ms ∧ (Lit.int .i64 o.n).wf = true
theorem OpOk.keep {w w' : World} {o : OpD} {mv : Value} (h : OpOk w o mv) (hb : Below w.heap.size w w') : OpOk w' o mv := ⟨h.1, SlR.keep h.2.1 hb, h.2.2⟩
/-- ops in memory -/
def opsC (l : List (OpD × Value)) : List Value := l.flatMap fun x => opC x.1 x.2
def Opss (w : World) (v : Value) (l : List (OpD × Value)) : Prop := SlR w v 9 l.length (opsC l) ∧ ∀ x ∈ l, OpOk w x.1 x.2
theorem Opss.keep {w w' : World} {v : Value} {l : List (OpD × Value)} (h : Opss w v l) (hb : Below w.heap.size w w') : Opss w' v l := ⟨SlR.keep h.1 hb, fun x hx => (h.2 x hx).keep hb⟩
end Go.Proofs.Ytgfmpkcgkjpgnaa
end
section
/-
  FILES: what arguments of the statements hold: disks, files.
-/
namespace Go.Proofs.Ytgfmpkcgkjpgnaa
open Go.ChangeShapes Go.WideShapes Go.ChangeAt Go.RowKit Agg Pg Dv Fi

set_option maxRecDepth 100000 in
theorem good_file {w : World} {fuel : Nat} {l : List Value} (h : Agg.Good Try.prog w fuel 41 l) : ∃ f : FileV, l = fiC f ∧ Ints w f.va f.at_ ∧ Bytes w f.vb f.bytes := by
  cases fuel with
  | zero => exact h.elim
  | succ n =>
    unfold Agg.Good at h
    rw [Try.underlying41] at h
    simp only at h
    obtain ⟨hl, hf⟩ := h
    have h0 : Agg.Good Try.prog w n 22 ((l.drop 0).take (Try.prog.cellsOf 22)) := hf 0 _ rfl
    have h1 : Agg.Good Try.prog w n 3 ((l.drop 1).take (Try.prog.cellsOf 3)) := hf 1 _ rfl
    have h2 : Agg.Good Try.prog w n 39 ((l.drop 2).take (Try.prog.cellsOf 39)) := hf 2 _ rfl
    have e0 : Try.prog.cellsOf 22 = 1 := by kernel_rfl
    have e1 : Try.prog.cellsOf 3 = 1 := by kernel_rfl
    have e3 : Try.prog.cellsOf 39 = 1 := by kernel_rfl
    have e2 : Try.prog.cellsOf 41 = 3 := by kernel_rfl
    rw [e0] at h0
    rw [e1] at h1
    rw [e3] at h2
    rw [e2] at hl
    match l, hl with
    | [a, b, c], _ =>
      obtain ⟨A, hA, _, _⟩ := good_ints h0
      obtain ⟨z, rfl, _⟩ := good_int h1
      obtain ⟨B, hB, _⟩ := good_bytes Try.underlying39 Try.underlying5 (by kernel_rfl) h2
      exact ⟨⟨A, z, B, a, c⟩, rfl, hA, hB⟩
theorem good_files {w : World} {fuel : Nat} {v : Value} (h : Agg.Good Try.prog w fuel 35 [v]) : ∃ l : List FileV, Files w v l := by
  obtain ⟨l, h1, h2, _⟩ := good_sl (α := FileV) Try.underlying35 (sz := 3) (by kernel_rfl) fiC (fun f => Ints w f.va f.at_ ∧ Bytes w f.vb f.bytes) (fun _ => rfl) (fun fu cs hg => by
    obtain ⟨f, h1, h2, h3⟩ := good_file hg
    exact ⟨f, h1, h2, h3⟩) h
  exact ⟨l, h1, fun f hf => h2 f hf⟩
theorem good_pg {w : World} {fuel : Nat} {cs : List Value} (h : Agg.Good Try.prog w fuel 83 cs) : ∃ p : PgD, cs = pgC p ∧ p.Ok ∧ (Lit.int .i64 p.page).wf = true := by
  have hf := good_fits fuel 5 83 [some .i64, some .u8, some .u64, some .u64, some .u64, some .u64] cs (by kernel_rfl) h
  obtain ⟨x, r, rfl, ⟨a, rfl, ha⟩, hf2⟩ := hf.cons
  obtain ⟨x5, r5, rfl, ⟨z5, rfl, h5⟩, hf3⟩ := hf2.cons
  obtain ⟨x1, r1, rfl, ⟨z1, rfl, h1⟩, hf4⟩ := hf3.cons
  obtain ⟨x2, r2, rfl, ⟨z2, rfl, h2⟩, hf5⟩ := hf4.cons
  obtain ⟨x3, r3, rfl, ⟨z3, rfl, h3⟩, hf6⟩ := hf5.cons
  obtain ⟨x4, r4, rfl, ⟨z4, rfl, h4⟩, hf7⟩ := hf6.cons
  rw [hf7.nil]
  obtain ⟨n1, rfl, l1⟩ := u64_nat h1
  obtain ⟨n2, rfl, l2⟩ := u64_nat h2
  obtain ⟨n3, rfl, l3⟩ := u64_nat h3
  obtain ⟨n4, rfl, l4⟩ := u64_nat h4
  obtain ⟨b, rfl⟩ := u8_byte h5
  refine ⟨⟨a, b, [n1, n2, n3, n4]⟩, rfl, ⟨rfl, fun s hs => ?_⟩, ha⟩
  simp only [List.mem_cons, List.not_mem_nil, or_false] at hs
  rcases hs with rfl | rfl | rfl | rfl <;> assumption
theorem good_pgs {w : World} {fuel : Nat} {v : Value} (h : Agg.Good Try.prog w fuel 36 [v]) : ∃ l : List PgD, PgsD w v l ∧ (∀ p ∈ l, p.Ok) ∧ ∀ p ∈ l, (Lit.int .i64 p.page).wf = true := by
  obtain ⟨l, h1, h2, _⟩ := good_sl (α := {p : PgD // p.Ok}) Try.underlying36 (sz := 6) (by kernel_rfl) (fun p => pgC p.1) (fun p => (Lit.int .i64 p.1.page).wf = true) (fun p => pgC_length p.2) (fun fu cs hg => by
    obtain ⟨p, h1, h2, h3⟩ := good_pg hg
    exact ⟨⟨p, h2⟩, h1, h3⟩) h
  refine ⟨l.map (·.1), ?_, fun p hp => ?_, fun p hp => ?_⟩
  · show SlR _ _ _ _ _
    rw [List.length_map, List.flatMap_map]; exact h1
  · obtain ⟨x, _, rfl⟩ := List.mem_map.1 hp
    exact x.2
  · obtain ⟨x, hx, rfl⟩ := List.mem_map.1 hp
    exact h2 x hx
set_option maxRecDepth 100000 in
theorem good_disk {w : World} {fuel : Nat} {c : Array Value} (h : Agg.Good Try.prog w fuel 38 c.toList) : ∃ (x : DiskD) (fv hv cv : Value), c = (diskC x fv hv cv).toArray ∧ DiskOk x ∧ Files w fv x.files ∧ PgsD w hv x.held ∧ PgsD w cv x.cache := by
  cases fuel with
  | zero => exact h.elim
  | succ n =>
    unfold Agg.Good at h
    rw [Try.underlying38] at h
    simp only at h
    obtain ⟨hl, hf⟩ := h
    have h0 : Agg.Good Try.prog w n 3 ((c.toList.drop 0).take (Try.prog.cellsOf 3)) := hf 0 _ rfl
    have h1 : Agg.Good Try.prog w n 35 ((c.toList.drop 1).take (Try.prog.cellsOf 35)) := hf 1 _ rfl
    have h2 : Agg.Good Try.prog w n 36 ((c.toList.drop 2).take (Try.prog.cellsOf 36)) := hf 2 _ rfl
    have h3 : Agg.Good Try.prog w n 36 ((c.toList.drop 3).take (Try.prog.cellsOf 36)) := hf 3 _ rfl
    have h4 : Agg.Good Try.prog w n 3 ((c.toList.drop 4).take (Try.prog.cellsOf 3)) := hf 4 _ rfl
    have h5 : Agg.Good Try.prog w n 4 ((c.toList.drop 5).take (Try.prog.cellsOf 4)) := hf 5 _ rfl
    have e0 : Try.prog.cellsOf 3 = 1 := by kernel_rfl
    have e1 : Try.prog.cellsOf 35 = 1 := by kernel_rfl
    have e3 : Try.prog.cellsOf 36 = 1 := by kernel_rfl
    have e4 : Try.prog.cellsOf 4 = 1 := by kernel_rfl
    have e2 : Try.prog.cellsOf 38 = 6 := by kernel_rfl
    rw [e0] at h0 h4
    rw [e1] at h1
    rw [e3] at h2 h3
    rw [e4] at h5
    rw [e2] at hl
    obtain ⟨l, hcl⟩ : ∃ l, l = c.toList := ⟨_, rfl⟩
    rw [← hcl] at hl h0 h1 h2 h3 h4 h5
    match l, hl with
    | [a, b, b2, b3, f, o], _ =>
      obtain ⟨z, rfl, _⟩ := good_int h0
      obtain ⟨l1, hl1⟩ := good_files h1
      obtain ⟨l2, hl2, ho2, _⟩ := good_pgs h2
      obtain ⟨l3, hl3, ho3, hn3⟩ := good_pgs h3
      obtain ⟨fu, rfl, _⟩ := good_int h4
      obtain ⟨q, rfl⟩ := good_bool h5
      exact ⟨⟨z, l1, l2, l3, fu, q⟩, b, b2, b3, (Array.toList_inj.1 hcl).symm, ⟨ho2, ho3, hn3⟩, hl1, hl2, hl3⟩
theorem good_filA {w : World} {fuel : Nat} {c : Array Value} (h : Agg.Good Try.prog w fuel 41 c.toList) : ∃ (fa : List Int) (fk : Int) (fb : List UInt8) (va vb : Value), c = #[va, .int .i64 fk, vb] ∧ Ints w va fa ∧ Bytes w vb fb := by
  obtain ⟨f, h1, h2, h3⟩ := good_file h
  exact ⟨f.at_, f.kind, f.bytes, f.va, f.vb, Array.toList_inj.1 h1, h2, h3⟩
end Go.Proofs.Ytgfmpkcgkjpgnaa
end
section
/-
  THE LAW FileWhole over arguments that are read as data.
-/
namespace Go.Proofs.Ytgfmpkcgkjpgnaa
open Go.ChangeShapes Go.WideShapes Go.ChangeAt Go.RowKit Agg Pg Dv Fi
theorem FileWhole_walk (c0 : Array Value) (f0 : Nat) (c1 : Array Value) (f1 : Nat) (v : Value) (f2 : Nat) (w : World) (h0 : Agg.Good Try.prog w f0 38 c0.toList) (h1 : Agg.Good Try.prog w f1 41 c1.toList) (h2 : Agg.Good Try.prog w f2 22 [v]) :
    Calls Try.prog 8 #[.agg c0, .agg c1, v] w fun e w' => e = .returned (.bool true) ∧ Below w.heap.size w w' := by
  obtain ⟨x, fv, hv, cv, rfl, hx, hf, hh, _⟩ := good_disk h0
  obtain ⟨fa, fk, fb, va, vb, rfl, ha, hb⟩ := good_filA h1
  obtain ⟨l, hl, _, _⟩ := good_ints h2
  exact whole_walk x fv hv cv hx fa fk fb va vb l v w hf hh ha hb hl
end Go.Proofs.Ytgfmpkcgkjpgnaa
end
