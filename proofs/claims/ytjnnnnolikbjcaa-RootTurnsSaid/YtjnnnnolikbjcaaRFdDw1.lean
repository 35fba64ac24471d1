/-
  CALLS IN REGIONS THAT DRAW THEIR ORDER, whose arguments are known, or of which something is known. Over any program.
-/
import Derived.Test.YtjnnnnolikbjcaaChain2
import Derived.Test.YtjnnnnolikbjcaaAgg2
import Derived.Test.YtjnnnnolikbjcaaKn
import Derived.Test.YtjnnnnolikbjcaaRFdDvW
section
namespace Agg
open Go Go.RowKit
section
variable {n kk : Nat} {P : Program} {l rest : List Oper} {W : World} {l0 : List Value} {ds : List Deferred} {acc : List R} {o : Oper} {fin : List R → Prop}
/-- one argument, of which something is known -/
theorem chCall_o {f : FuncId} {fn : Func} (hf : P.funcs[f]? = some fn) (hbody : fn.body.isNone = false) (hname : (fn.name == "runtime.NumGoroutine") = false) {t : Nat} {ts : Array TypeId} (r : R) (hst : r.ok) (j : Nat) {g : Value → World → Prop}
    (ho : o.op = .call { callee := .value (.func f), args := #[.tmp t], argTypes := ts }) (hd : depL o j = true) (hj : look kk acc j = some (.op g)) (ht : (l[j]?).map (·.dst) = some (some t)) (hw : wants kk acc o = some true) (hk : gOk l o = true)
    (hc : ∀ u w, Below W.heap.size W w → g u w → Calls P f #[u] w fun e w' => ∃ v, e = .returned v ∧ r.holds v w' ∧ Below w.heap.size w w')
    (h : ChainR n P l.toArray W ⟨l0.toArray, ds⟩ (kk + 1) (r :: acc) rest fin) : ChainR n P l.toArray W ⟨l0.toArray, ds⟩ kk acc (o :: rest) fin :=
  chCallA (r := r) (by rw [ho]; rfl) hw hk hst hf hbody hname ho (fun a w hh => by
    obtain ⟨u, hu, hg⟩ := hh.op j t hd hj ht
    have e : (#[Operand.tmp t].map a.eval) = #[u] := by simp [hu]
    rw [e]
    exact hc u w hh.below hg) h
/-- two, the second one of which something is known -/
theorem chCall_po {f : FuncId} {fn : Func} (hf : P.funcs[f]? = some fn) (hbody : fn.body.isNone = false) (hname : (fn.name == "runtime.NumGoroutine") = false) {x : Operand} {vx : Value} {t : Nat} {ts : Array TypeId} (r : R) (hst : r.ok) (j : Nat) {g : Value → World → Prop}
    (ho : o.op = .call { callee := .value (.func f), args := #[x, .tmp t], argTypes := ts }) (hx : rd (l.take n) l0 kk acc o x = some vx) (hd : depL o j = true) (hj : look kk acc j = some (.op g)) (ht : (l[j]?).map (·.dst) = some (some t)) (hw : wants kk acc o = some true) (hk : gOk l o = true)
    (hc : ∀ u w, Below W.heap.size W w → g u w → Calls P f #[vx, u] w fun e w' => ∃ v, e = .returned v ∧ r.holds v w' ∧ Below w.heap.size w w')
    (h : ChainR n P l.toArray W ⟨l0.toArray, ds⟩ (kk + 1) (r :: acc) rest fin) : ChainR n P l.toArray W ⟨l0.toArray, ds⟩ kk acc (o :: rest) fin :=
  chCallA (r := r) (by rw [ho]; rfl) hw hk hst hf hbody hname ho (fun a w hh => by
    obtain ⟨u, hu, hg⟩ := hh.op j t hd hj ht
    have e : (#[x, Operand.tmp t].map a.eval) = #[vx, u] := by simp [hu, hh.rd hx]
    rw [e]
    exact hc u w hh.below hg) h
/-- .. the first one -/
theorem chCall_op {f : FuncId} {fn : Func} (hf : P.funcs[f]? = some fn) (hbody : fn.body.isNone = false) (hname : (fn.name == "runtime.NumGoroutine") = false) {x : Operand} {vx : Value} {t : Nat} {ts : Array TypeId} (r : R) (hst : r.ok) (j : Nat) {g : Value → World → Prop}
    (ho : o.op = .call { callee := .value (.func f), args := #[.tmp t, x], argTypes := ts }) (hx : rd (l.take n) l0 kk acc o x = some vx) (hd : depL o j = true) (hj : look kk acc j = some (.op g)) (ht : (l[j]?).map (·.dst) = some (some t)) (hw : wants kk acc o = some true) (hk : gOk l o = true)
    (hc : ∀ u w, Below W.heap.size W w → g u w → Calls P f #[u, vx] w fun e w' => ∃ v, e = .returned v ∧ r.holds v w' ∧ Below w.heap.size w w')
    (h : ChainR n P l.toArray W ⟨l0.toArray, ds⟩ (kk + 1) (r :: acc) rest fin) : ChainR n P l.toArray W ⟨l0.toArray, ds⟩ kk acc (o :: rest) fin :=
  chCallA (r := r) (by rw [ho]; rfl) hw hk hst hf hbody hname ho (fun a w hh => by
    obtain ⟨u, hu, hg⟩ := hh.op j t hd hj ht
    have e : (#[Operand.tmp t, x].map a.eval) = #[u, vx] := by simp [hu, hh.rd hx]
    rw [e]
    exact hc u w hh.below hg) h
/-- .. both -/
theorem chCall_oo {f : FuncId} {fn : Func} (hf : P.funcs[f]? = some fn) (hbody : fn.body.isNone = false) (hname : (fn.name == "runtime.NumGoroutine") = false) {t t2 : Nat} {ts : Array TypeId} (r : R) (hst : r.ok) (j j2 : Nat) {g g2 : Value → World → Prop}
    (ho : o.op = .call { callee := .value (.func f), args := #[.tmp t, .tmp t2], argTypes := ts }) (hd : depL o j = true) (hj : look kk acc j = some (.op g)) (ht : (l[j]?).map (·.dst) = some (some t)) (hd2 : depL o j2 = true) (hj2 : look kk acc j2 = some (.op g2)) (ht2 : (l[j2]?).map (·.dst) = some (some t2)) (hw : wants kk acc o = some true) (hk : gOk l o = true)
    (hc : ∀ u u2 w, Below W.heap.size W w → g u w → g2 u2 w → Calls P f #[u, u2] w fun e w' => ∃ v, e = .returned v ∧ r.holds v w' ∧ Below w.heap.size w w')
    (h : ChainR n P l.toArray W ⟨l0.toArray, ds⟩ (kk + 1) (r :: acc) rest fin) : ChainR n P l.toArray W ⟨l0.toArray, ds⟩ kk acc (o :: rest) fin :=
  chCallA (r := r) (by rw [ho]; rfl) hw hk hst hf hbody hname ho (fun a w hh => by
    obtain ⟨u, hu, hg⟩ := hh.op j t hd hj ht
    obtain ⟨u2, hu2, hg2⟩ := hh.op j2 t2 hd2 hj2 ht2
    have e : (#[Operand.tmp t, Operand.tmp t2].map a.eval) = #[u, u2] := by simp [hu, hu2]
    rw [e]
    exact hc u u2 w hh.below hg hg2) h
end
/-- a slice's elements do not lie where its first one does not -/
theorem SlR.far {w w' : World} {v : Value} {sz n : Nat} {cs : List Value} {g : Nat} {T : TypeId} {ds : List Value} (h : SlR w v sz n cs) (H : Blk w g T ds) (hc : ∀ (i : Nat) (u : Value), cs[0]? = some u → ds[i]? ≠ some u) (hg : w.grownBy w' (some g)) : SlR w' v sz n cs := by
  refine ⟨h.1, ?_⟩
  rcases h.2 with h2 | ⟨x, cap, rfl, h3, h4, h5⟩
  · exact .inl h2
  · refine .inr ⟨x, cap, rfl, h3, h4, fun i u hu => ?_⟩
    have h0 : 0 < cs.length := by have := (List.getElem?_eq_some_iff.1 hu).1; omega
    have hne : x.block ≠ g := by
      intro e
      have h1 := h5 0 cs[0] (List.getElem?_eq_getElem h0)
      have h2 : x.add 0 = x := by simp [Addr.add]
      rw [h2] at h1
      cases x with
      | mk b o s =>
        simp only at e
        subst e
        have hs : s = none := by
          cases s with
          | none => rfl
          | some q =>
            exfalso
            have hb : w.heap[b]? = some (.cells ds.toArray T (0, 0)) := H
            simp [World.cell?, hb] at h1
        subst hs
        rw [H.cell] at h1
        exact hc _ _ (List.getElem?_eq_getElem h0) h1
    have := h5 i u hu
    refine hg.cell this ?_
    intro e
    apply hne
    have e2 : (x.add i).block = x.block := by unfold Addr.add; split <;> rfl
    rw [← e2]; exact Option.some.inj e
end Agg
end
section
/-
  MOVES AND PARTS of op values in a drawn region (the head of XWdK, for other seats). Over any program.
-/
namespace Agg
open Go Go.RowKit
section
variable {n kk : Nat} {P : Program} {l rest : List Oper} {W : World} {l0 : List Value} {ds : List Deferred} {acc : List R} {o : Oper} {fin : List R → Prop}
/-- a move of something of which something is known -/
theorem chMoveO {t : Nat} (j : Nat) {g : Value → World → Prop} (hst : Stable g) (ho : o.op = .move (.tmp t)) (hd : depL o j = true) (hj : look kk acc j = some (.op g)) (ht : (l[j]?).map (·.dst) = some (some t)) (hw : wants kk acc o = some true) (hk : gOk l o = true)
    (h : ChainR n P l.toArray W ⟨l0.toArray, ds⟩ (kk + 1) ((.op g) :: acc) rest fin) : ChainR n P l.toArray W ⟨l0.toArray, ds⟩ kk acc (o :: rest) fin :=
  chPureG (by rw [ho]; rfl) hw hk hst (fun a w hh => by
    obtain ⟨v, hv, hg⟩ := hh.op j t hd hj ht
    exact ⟨v, hg, fun w' => by simp only [execOp, ho, hv, Sem.run_pure]⟩) h
/-- a part of something of which something is known -/
theorem chExtractO {t i : Nat} (j : Nat) {g g' : Value → World → Prop} (hst : Stable g') (hx : ∀ v w, g v w → ∃ vs u, v = .tuple vs ∧ vs[i]? = some u ∧ g' u w) (ho : o.op = .extract (.tmp t) i) (hd : depL o j = true) (hj : look kk acc j = some (.op g)) (ht : (l[j]?).map (·.dst) = some (some t)) (hw : wants kk acc o = some true) (hk : gOk l o = true)
    (h : ChainR n P l.toArray W ⟨l0.toArray, ds⟩ (kk + 1) ((.op g') :: acc) rest fin) : ChainR n P l.toArray W ⟨l0.toArray, ds⟩ kk acc (o :: rest) fin :=
  chPureG (by rw [ho]; rfl) hw hk hst (fun a w hh => by
    obtain ⟨v, hv, hg⟩ := hh.op j t hd hj ht
    obtain ⟨vs, u, rfl, hu, hg'⟩ := hx v w hg
    exact ⟨u, hg', fun w' => by simp [execOp, ho, hv, Instr.extract, hu]⟩) h
end
end Agg
end
section
/-
  DEVICES: what an op does.
-/
namespace Go.Proofs.Ytjnnnnolikbjcaa
open Go.ChangeShapes Go.WideShapes Go.ChangeAt Go.RowKit Agg Pg Dv

def kindN (k : Int) : Nat := (k % 18446744073709551616 % 5).toNat
/-- what an op does; what of it -/
def doesP (o : OpD) (d : Dev) : Int × Dev :=
  if kindN o.kind < 2 then goesP d (putP d o.fl.page (fillB o.fl)) else if kindN o.kind = 2 then goesP d (flushP d) else if kindN o.kind = 3 then goesP d (lightP d o.n) else crashP d (o.ms.take 60)
theorem kindN_lt (k : Int) : kindN k < 5 := by unfold kindN; omega
theorem u64_wrap (k : Int) : IntKind.u64.wrap k = k % 18446744073709551616 := by simp [IntKind.wrap, IntKind.bits, IntKind.signed]
theorem kindN_eq (k : Int) : (IntKind.u64.wrap k).tmod 5 = (kindN k : Int) := by
  rw [u64_wrap, Int.tmod_eq_emod_of_nonneg (by omega)]
  unfold kindN; omega
def DevT (base : Nat) (e : Int) (d : Dev) (v : Value) (w : World) : Prop := ∃ u, v = .tuple #[u, .int .i64 e] ∧ DevO base w u d
abbrev DevV (base : Nat) (d : Dev) (v : Value) (w : World) : Prop := DevO base w v d
def DevRT (e : Int) (d : Dev) (v : Value) (w : World) : Prop := ∃ u, v = .tuple #[u, .int .i64 e] ∧ DevR w u d
abbrev DevRV (d : Dev) (v : Value) (w : World) : Prop := DevR w v d
abbrev IntV (e : Int) (v : Value) (_ : World) : Prop := v = .int .i64 e
theorem DevT.stable (base : Nat) (e : Int) (d : Dev) : Stable (DevT base e d) := fun _ _ _ ⟨u, h1, h2⟩ hb => ⟨u, h1, h2.keep hb⟩
theorem DevV.stable (base : Nat) (d : Dev) : Stable (DevV base d) := fun _ _ _ h hb => DevO.keep h hb
theorem DevRT.stable (e : Int) (d : Dev) : Stable (DevRT e d) := fun _ _ _ ⟨u, h1, h2⟩ hb => ⟨u, h1, h2.keep hb⟩
theorem DevRV.stable (d : Dev) : Stable (DevRV d) := fun _ _ _ h hb => DevR.keep h hb
theorem IntV.stable (e : Int) : Stable (IntV e) := fun _ _ _ h _ => h
theorem DevT.fst {base : Nat} {e : Int} {d : Dev} (v : Value) (w : World) (h : DevT base e d v w) : ∃ vs u, v = .tuple vs ∧ vs[0]? = some u ∧ DevV base d u w := by
  obtain ⟨u, h1, h2⟩ := h; exact ⟨_, u, h1, rfl, h2⟩
theorem DevT.snd {base : Nat} {e : Int} {d : Dev} (v : Value) (w : World) (h : DevT base e d v w) : ∃ vs u, v = .tuple vs ∧ vs[1]? = some u ∧ IntV e u w := by
  obtain ⟨u, h1, h2⟩ := h; exact ⟨_, _, h1, rfl, rfl⟩
theorem DevRT.fst {e : Int} {d : Dev} (v : Value) (w : World) (h : DevRT e d v w) : ∃ vs u, v = .tuple vs ∧ vs[0]? = some u ∧ DevRV d u w := by
  obtain ⟨u, h1, h2⟩ := h; exact ⟨_, u, h1, rfl, h2⟩
theorem DevRT.snd {e : Int} {d : Dev} (v : Value) (w : World) (h : DevRT e d v w) : ∃ vs u, v = .tuple vs ∧ vs[1]? = some u ∧ IntV e u w := by
  obtain ⟨u, h1, h2⟩ := h; exact ⟨_, _, h1, rfl, rfl⟩
def IntsV (l : List Int) (v : Value) (w : World) : Prop := Ints w v l
theorem IntsV.stable (l : List Int) : Stable (IntsV l) := fun _ _ _ h hb => SlR.keep h hb
theorem burnD_pages (d : Dev) : (burnD d).pages = d.pages := rfl
theorem burnD_cache (d : Dev) : (burnD d).cache = d.cache := rfl
theorem dev0_ok : DOk dev0 := ⟨fun b hb => absurd hb (by simp [dev0]), fun b hb => absurd hb (by simp [dev0])⟩
theorem putP_ok {d : Dev} (h : DOk d) (k : Int) {b : List Sec} (hb : BOk b) : DOk (putP d k b).2 := by
  unfold putP
  split
  · exact h
  · split
    · exact h
    · refine ⟨h.1, fun x hx => ?_⟩
      rcases List.mem_append.1 hx with hx | hx
      · exact h.2 x hx
      · rw [List.mem_singleton.1 hx]; exact hb
theorem flushP_ok {d : Dev} (h : DOk d) : DOk (flushP d).2 := by
  unfold flushP
  split
  · exact h
  · exact ⟨(settleAll_ok h.1 d.cache h.2).2, fun x hx => absurd hx (by simp)⟩
theorem lightP_ok {d : Dev} (h : DOk d) (n : Int) : DOk (lightP d n).2 := by
  unfold lightP
  split <;> exact h
theorem goesP_ok {d : Dev} (h : DOk d) {r : Int × Dev} (hr : DOk r.2) : DOk (goesP d r).2 := by
  unfold goesP
  split
  · exact dev0_ok
  · split
    · exact h
    · split
      · exact dev0_ok
      · exact hr
theorem crashP_ok {d : Dev} (h : DOk d) (ms : List Int) : DOk (crashP d ms).2 := by
  unfold crashP
  split
  · exact dev0_ok
  · split
    · exact dev0_ok
    · exact ⟨(settleBy_ok h.1 d.cache ms h.2).2, fun x hx => absurd hx (by simp)⟩
theorem doesP_ok {o : OpD} {d : Dev} (hf : o.fl.Ok) (h : DOk d) : DOk (doesP o d).2 := by
  unfold doesP
  split
  · exact goesP_ok h (putP_ok h _ (fillB_bok hf))
  · split
    · exact goesP_ok h (flushP_ok h)
    · split
      · exact goesP_ok h (lightP_ok h _)
      · exact crashP_ok h _
/-- a device that is read, while a device's variable is written -/
theorem SlR.farAt {w w' : World} {v : Value} {sz n : Nat} {cs : List Value} {g : Nat} {T : TypeId} {ds : List Value} (j : Nat) (hsz : 0 < sz) (h : SlR w v sz n cs) (H : Blk w g T ds) (hz : 0 < n → ∃ u, cs[j]? = some u ∧ ∀ i : Nat, ds[i]? ≠ some u) (hg : w.grownBy w' (some g)) : SlR w' v sz n cs := by
  rcases Nat.eq_zero_or_pos n with h0 | h0
  · subst h0
    refine ⟨h.1, ?_⟩
    rcases h.2 with h2 | ⟨x, cap, hv, h3, h4, _⟩
    · exact .inl h2
    · refine .inr ⟨x, cap, hv, h3, h4, fun i u hu => ?_⟩
      have := List.eq_nil_of_length_eq_zero (by rw [h.1]; simp : cs.length = 0)
      subst this
      cases hu
  · refine SlR.grown h hg (fun k hk => ?_)
    cases hk
    intro e
    obtain ⟨u, hu, hd⟩ := hz h0
    obtain ⟨b, o, cap, rfl, _, _, h5, _⟩ := SlR.pos h hsz h0
    have h6 := h5 j u hu
    obtain rfl : b = g := by simpa [Value.ownBlock] using e
    rw [H.cell] at h6
    exact hd _ h6
theorem blkC_head {b : List Sec} (hb : BOk b) : ∃ s : Nat, (blkC b)[0]? = some (.int .u64 (s : Int)) := by
  match b, hb.1 with
  | [s0, s1, s2, s3], _ => exact ⟨s0.1, rfl⟩
theorem DevR.far {w w' : World} {v : Value} {d : Dev} {g : Nat} {T : TypeId} {px cx : Option Addr} {pn pc cn cc : Nat} {z : Int} {q : Bool} (h : DevR w v d) (hd : DOk d) (H : Blk w g T [.slice px pn pc, .slice cx cn cc, .int .i64 z, .bool q]) (hg : w.grownBy w' (some g)) : DevR w' v d := by
  obtain ⟨x, y, cap, cm, h1, h2, h3⟩ := h
  have hno : ∀ (s : Nat) (i : Nat), [Value.slice px pn pc, .slice cx cn cc, .int .i64 z, .bool q][i]? ≠ some (.int .u64 (s : Int)) := by
    intro s i e
    have := List.mem_of_getElem? e
    simp at this
  refine ⟨x, y, cap, cm, h1, SlR.farAt 0 (by decide) h2 H (fun h0 => ?_) hg, SlR.farAt 1 (by decide) h3 H (fun h0 => ?_) hg⟩
  · obtain ⟨P, l, z, q⟩ := d
    cases P with
    | nil => simp at h0
    | cons b r =>
      have hb := hd.1 b (by simp)
      obtain ⟨s, hs⟩ := blkC_head hb
      refine ⟨_, ?_, hno s⟩
      rw [List.flatMap_cons, List.getElem?_append_left (by rw [bok_cells hb]; decide)]
      exact hs
  · obtain ⟨P, l, z, q⟩ := d
    cases l with
    | nil => simp at h0
    | cons b r =>
      have hb := hd.2 b (by simp)
      obtain ⟨s, hs⟩ := blkC_head hb
      refine ⟨_, ?_, hno s⟩
      rw [List.flatMap_cons, List.getElem?_append_left (by rw [wrC_length _ hb]; decide), wrC, List.getElem?_cons_succ]
      exact hs
end Go.Proofs.Ytjnnnnolikbjcaa
end
section
/-
  DEVICES: what an op does, by the document.
-/
namespace Go.Proofs.Ytjnnnnolikbjcaa
open Go.ChangeShapes Go.WideShapes Go.ChangeAt Go.RowKit Agg Pg Dv

end Go.Proofs.Ytjnnnnolikbjcaa
end
section
/-
  MAKE, and a struct built of what was made, in a region that draws its order. Over any program.
-/
namespace Agg
open Go Go.RowKit
section
variable {n kk : Nat} {P : Program} {l rest : List Oper} {W : World} {l0 : List Value} {ds : List Deferred} {acc : List R} {o : Oper} {fin : List R → Prop}
/-- make([]T, n) -/
theorem chMake {t e : TypeId} {size bytes : Nat} {z : Value} (T : TI P t e size bytes z) {x y : Operand} {kl kc : IntKind} (c : Nat) {li ci : Int} (hl : li = (c : Int)) (hc : ci = (c : Int)) (hb : c * bytes ≤ 140737488355328) (h63 : c ≤ maxLen) (ho : o.op = .makeSlice t x y)
    (hx : rd (l.take n) l0 kk acc o x = some (.int kl li)) (hy : rd (l.take n) l0 kk acc o y = some (.int kc ci)) (hw : wants kk acc o = some true) (hk : gOk l o = true)
    (h : ChainR n P l.toArray W ⟨l0.toArray, ds⟩ (kk + 1) ((.op (NewSl W.heap.size e c (madeCells z.cells (c * size)).toList)) :: acc) rest fin) : ChainR n P l.toArray W ⟨l0.toArray, ds⟩ kk acc (o :: rest) fin :=
  chRun (r := .op (NewSl W.heap.size e c (madeCells z.cells (c * size)).toList)) (by rw [ho]; rfl) hw hk (NewSl.stable _ _ _ _) (fun a w hh => by
    obtain ⟨i, hi, hz, hs, hbt⟩ := T.info
    subst hl; subst hc
    have h63' : (c : Int) ≤ 9223372036854775807 := by unfold maxLen at h63; omega
    have hb' : (i.bytes : Int) * (c : Int) ≤ 281474976710656 := by
      rw [hbt, ← Int.natCast_mul, Nat.mul_comm]; omega
    have hr := run_make (P := P) w t e i z T.ht hi hz kl kc c c (by omega) (by omega) hb' h63'
    simp only [Int.toNat_natCast, hs] at hr
    refine ⟨.slice (some ⟨w.heap.size, 0, none⟩) c c, _, ?_, ⟨_, rfl, hh.below.size, Blk.new w e _⟩, (Below.refl _ _).alloc (Nat.le_refl _) _⟩
    simp only [execOp, ho, hh.rd hx, hh.rd hy, Sem.run_bind, hr, Result.andThen_ok, Sem.run_pure]) h
/-- a struct of three fields, the first of which was made -/
theorem chBuildO3 {t : TypeId} {ts i0 i1 i2 : Nat} {x1 x2 : Operand} {v1 v2 : Value} (j : Nat) {g g' : Value → World → Prop} (hst : Stable g') (F : Value → Value) (hr : ∀ u w w', g u w → (Instr.build t #[(i0, u), (i1, v1), (i2, v2)]).run P w' = .ok (F u) w' ∧ g' (F u) w)
    (ho : o.op = .build t #[(i0, .tmp ts), (i1, x1), (i2, x2)]) (hx1 : rd (l.take n) l0 kk acc o x1 = some v1) (hx2 : rd (l.take n) l0 kk acc o x2 = some v2) (hd : depL o j = true) (hj : look kk acc j = some (.op g)) (ht : (l[j]?).map (·.dst) = some (some ts)) (hw : wants kk acc o = some true) (hk : gOk l o = true)
    (h : ChainR n P l.toArray W ⟨l0.toArray, ds⟩ (kk + 1) ((.op g') :: acc) rest fin) : ChainR n P l.toArray W ⟨l0.toArray, ds⟩ kk acc (o :: rest) fin :=
  chPureG (by rw [ho]; rfl) hw hk hst (fun a w hh => by
    obtain ⟨v, hv, hg⟩ := hh.op j ts hd hj ht
    refine ⟨F v, (hr v w w hg).2, fun w' => ?_⟩
    have h1 := (hr v w w' hg).1
    simp [execOp, ho, hv, hh.rd hx1, hh.rd hx2, h1]) h
end
end Agg
end
section
/-
  DEVICES: a device that is told.
-/
namespace Dv
open Go Go.RowKit Agg Pg
/-- Fills in memory -/
abbrev Fls (w : World) (v : Value) (l : List Fl) : Prop := SlR w v 6 l.length (l.flatMap flC)
/-- a device that is told -/
structure LaidD where
  n : Int
  fills : List Fl
  cache : List Fl
  fuse : Int
  off : Bool
def laidC (x : LaidD) (fv cv : Value) : List Value := [.int .i64 x.n, fv, cv, .int .i64 x.fuse, .bool x.off]
def laidN (x : LaidD) : Nat := (min (max x.n 0) 257).toNat
def layFill (n : Nat) (P : List (List Sec)) (f : Fl) : List (List Sec) := if thereB n f.page = true then P.set f.page.toNat (fillB f) else P
def laidP (x : LaidD) (k : Nat) : List (List Sec) := ((x.fills.take k).take 40).foldl (layFill (laidN x)) (List.replicate (laidN x) zeroB)
def flW (f : Fl) : Int × List Sec := (f.page, fillB f)
def laidL (x : LaidD) (k : Nat) : List (Int × List Sec) := ((x.cache.take k).take 40).map flW
def laidD (x : LaidD) : Dev := ⟨laidP x x.fills.length, laidL x x.cache.length, x.fuse, x.off⟩
theorem layFill_length (n : Nat) (P : List (List Sec)) (f : Fl) : (layFill n P f).length = P.length := by unfold layFill; split <;> simp
theorem layFill_bok {n : Nat} {P : List (List Sec)} (hP : ∀ b ∈ P, BOk b) {f : Fl} (hf : f.Ok) : ∀ b ∈ layFill n P f, BOk b := by
  unfold layFill
  split
  · exact set_bok hP _ (fillB_bok hf)
  · exact hP
theorem lay_ok (n : Nat) (l : List Fl) (hl : ∀ f ∈ l, f.Ok) (P : List (List Sec)) (hP : ∀ b ∈ P, BOk b) : (l.foldl (layFill n) P).length = P.length ∧ ∀ b ∈ l.foldl (layFill n) P, BOk b := by
  induction l generalizing P with
  | nil => exact ⟨rfl, hP⟩
  | cons f r ih =>
    rw [List.foldl_cons]
    have := ih (fun g hg => hl g (by simp [hg])) (layFill n P f) (layFill_bok hP (hl f (by simp)))
    exact ⟨by rw [this.1, layFill_length], this.2⟩
theorem laidP_ok (x : LaidD) (hx : ∀ f ∈ x.fills, f.Ok) (k : Nat) : (laidP x k).length = laidN x ∧ ∀ b ∈ laidP x k, BOk b := by
  have := lay_ok (laidN x) ((x.fills.take k).take 40) (fun f hf => hx f (List.mem_of_mem_take (List.mem_of_mem_take hf))) (List.replicate (laidN x) zeroB) (fun b hb => by rw [List.eq_of_mem_replicate hb]; exact zeroB_bok)
  rwa [List.length_replicate] at this
theorem laidP_succ (x : LaidD) (k : Nat) (h : k < x.fills.length) : laidP x (k + 1) = if k < 40 then layFill (laidN x) (laidP x k) x.fills[k] else laidP x k := by
  unfold laidP
  by_cases hk : k < 40
  · rw [if_pos hk, List.take_of_length_le (by rw [List.length_take]; omega), List.take_of_length_le (l := x.fills.take k) (by rw [List.length_take]; omega), List.take_succ_eq_append_getElem h, List.foldl_append]; rfl
  · rw [if_neg hk, List.take_take, List.take_take, Nat.min_eq_left (by omega), Nat.min_eq_left (by omega)]
theorem laidL_succ (x : LaidD) (k : Nat) (h : k < x.cache.length) : laidL x (k + 1) = if k < 40 then laidL x k ++ [flW x.cache[k]] else laidL x k := by
  unfold laidL
  by_cases hk : k < 40
  · rw [if_pos hk, List.take_of_length_le (by rw [List.length_take]; omega), List.take_of_length_le (l := x.cache.take k) (by rw [List.length_take]; omega), List.take_succ_eq_append_getElem h, List.map_append]; rfl
  · rw [if_neg hk, List.take_take, List.take_take, Nat.min_eq_left (by omega), Nat.min_eq_left (by omega)]
theorem laidL_len (x : LaidD) (k : Nat) : (laidL x k).length ≤ 40 := by unfold laidL; rw [List.length_map, List.length_take]; omega
theorem laidL_bok (x : LaidD) (hx : ∀ f ∈ x.cache, f.Ok) (k : Nat) : ∀ b ∈ laidL x k, BOk b.2 := by
  intro b hb
  obtain ⟨f, hf, rfl⟩ := List.mem_map.1 hb
  exact fillB_bok (hx f (List.mem_of_mem_take (List.mem_of_mem_take hf)))
theorem laidN_le (x : LaidD) : laidN x ≤ 257 := by unfold laidN; omega
theorem laidD_ok (x : LaidD) (h1 : ∀ f ∈ x.fills, f.Ok) (h2 : ∀ f ∈ x.cache, f.Ok) : DOk (laidD x) := ⟨(laidP_ok x h1 _).2, laidL_bok x h2 _⟩
theorem flC_one (f : Fl) : ∀ u ∈ flC f, u.oneCell' = true := by
  intro u hu
  rcases List.mem_cons.1 hu with rfl | h
  · rfl
  · rcases List.mem_append.1 h with h | h
    · obtain ⟨s, _, rfl⟩ := List.mem_map.1 h; rfl
    · rw [List.mem_singleton.1 h]; rfl
def fl0 : List Value := [.int .i64 0, .int .u64 0, .int .u64 0, .int .u64 0, .int .u64 0, .int .u8 0]
end Dv
namespace Go.Proofs.Ytjnnnnolikbjcaa
open Go.ChangeShapes Go.WideShapes Go.ChangeAt Go.RowKit Agg Pg Dv

/-- pages that were made, as a device that is built -/
def MadeDev (b0 n : Nat) (f : Int) (o : Bool) (v : Value) (w : World) : Prop := ∃ b, v = .agg #[.slice (some ⟨b, 0, none⟩) n n, .slice none 0 0, .int .i64 f, .bool o] ∧ b0 ≤ b ∧ Blk w b 38 ((List.replicate n zeroB).flatMap blkC)
theorem MadeDev.stable (b0 n : Nat) (f : Int) (o : Bool) : Stable (MadeDev b0 n f o) := fun _ _ _ ⟨b, h1, h2, h3⟩ hb => ⟨b, h1, h2, h3.keep hb⟩
theorem build_dev (s : Value) (hs : ∃ b n, s = .slice (some ⟨b, 0, none⟩) n n) (f : Int) (o : Bool) (w : World) : (Instr.build 30 #[(0, s), (2, .int .i64 f), (3, .bool o)]).run Try.prog w = .ok (.agg #[s, .slice none 0 0, .int .i64 f, .bool o]) w := by
  obtain ⟨b, n, rfl⟩ := hs
  kernel_rfl
theorem bDne : 38 ≠ 30 := by decide
theorem wDne : 88 ≠ 30 := by decide
end Go.Proofs.Ytjnnnnolikbjcaa
end
section
/-
  DEVICES: all contracts over a device that is read.
-/
namespace Dv
open Go Go.RowKit Agg Pg
/-- a device whose blocks are whole, of few pages; the numbers of its writes are numbers -/
structure DGood (d : Dev) : Prop where
  pages : ∀ b ∈ d.pages, BOk b
  cache : ∀ x ∈ d.cache, BOk x.2
  nums : ∀ x ∈ d.cache, (Lit.int .i64 x.1).wf = true
  np : d.pages.length ≤ 1000
theorem DGood.n1 {d : Dev} (h : DGood d) : d.pages.length ≤ 1000000 := Nat.le_trans h.np (by decide)
theorem DGood.ok {d : Dev} (h : DGood d) : DOk d := ⟨h.pages, h.cache⟩
end Dv
namespace Go.Proofs.Ytjnnnnolikbjcaa
open Go.ChangeShapes Go.WideShapes Go.ChangeAt Go.RowKit Agg Pg Dv

theorem DGood.wok {d : Dev} (h : DGood d) : ∀ x ∈ d.cache, WOk x := fun x hx => ⟨h.nums x hx, h.cache x hx⟩
theorem dev0_good : DGood dev0 := ⟨dev0_ok.1, dev0_ok.2, fun b hb => absurd hb (by simp [dev0]), by simp [dev0]⟩
theorem goesP_good {d : Dev} (h : DGood d) {r : Int × Dev} (hr : DGood r.2) : DGood (goesP d r).2 := by
  unfold goesP
  split
  · exact dev0_good
  · split
    · exact h
    · split
      · exact dev0_good
      · exact hr
theorem burnD_good {d : Dev} (h : DGood d) : DGood (burnD d) := ⟨h.pages, h.cache, h.nums, h.np⟩
theorem wf_small {k : Int} (h : 0 ≤ k) (h2 : k < 1000000) : (Lit.int .i64 k).wf = true := by
  simp [Lit.wf, IntKind.min, IntKind.max, IntKind.bits, IntKind.signed]; omega
theorem putP_good {d : Dev} (h : DGood d) (k : Int) {b : List Sec} (hb : BOk b) : DGood (putP d k b).2 := by
  unfold putP
  split
  · exact h
  · rename_i hth
    split
    · exact burnD_good h
    · refine ⟨h.pages, fun x hx => ?_, fun x hx => ?_, h.np⟩
      · rcases List.mem_append.1 hx with hx | hx
        · exact h.cache x hx
        · rw [List.mem_singleton.1 hx]; exact hb
      · rcases List.mem_append.1 hx with hx | hx
        · exact h.nums x hx
        · rw [List.mem_singleton.1 hx]
          obtain ⟨p, rfl, hp⟩ := there_nat (by simpa using hth)
          exact wf_small (by omega) (by have := h.np; omega)
theorem flushP_good {d : Dev} (h : DGood d) : DGood (flushP d).2 := by
  unfold flushP
  split
  · exact burnD_good h
  · exact ⟨(settleAll_ok h.pages d.cache h.cache).2, fun x hx => absurd hx (by simp), fun x hx => absurd hx (by simp), by show (settleAll _ _).length ≤ _; rw [(settleAll_ok h.pages d.cache h.cache).1]; exact h.np⟩
theorem lightP_good {d : Dev} (h : DGood d) (n : Int) : DGood (lightP d n).2 := by
  unfold lightP
  split
  · exact ⟨h.pages, h.cache, h.nums, h.np⟩
  · exact h
theorem crashP_good {d : Dev} (h : DGood d) (ms : List Int) : DGood (crashP d ms).2 := by
  unfold crashP
  split
  · exact dev0_good
  · split
    · exact dev0_good
    · exact ⟨(settleBy_ok h.pages d.cache ms h.cache).2, fun x hx => absurd hx (by simp), fun x hx => absurd hx (by simp), by show (settleBy _ _ _).length ≤ _; rw [(settleBy_ok h.pages d.cache ms h.cache).1]; exact h.np⟩
theorem doesP_good {o : OpD} {d : Dev} (hf : o.fl.Ok) (h : DGood d) : DGood (doesP o d).2 := by
  unfold doesP
  split
  · exact goesP_good h (putP_good h _ (fillB_bok hf))
  · split
    · exact goesP_good h (flushP_good h)
    · split
      · exact goesP_good h (lightP_good h _)
      · exact crashP_good h _
theorem goesP_len {d : Dev} {r : Int × Dev} {n : Nat} (h : d.cache.length ≤ n) (hr : r.2.cache.length ≤ n) : (goesP d r).2.cache.length ≤ n := by
  unfold goesP
  split
  · simp [dev0]
  · split
    · exact h
    · split
      · simp [dev0]
      · exact hr
theorem doesP_len (o : OpD) (d : Dev) : (doesP o d).2.cache.length ≤ d.cache.length + 1 := by
  unfold doesP
  split
  · refine goesP_len (by omega) ?_
    unfold putP
    split
    · exact Nat.le_succ _
    · split
      · exact Nat.le_succ _
      · simp
  · split
    · refine goesP_len (by omega) ?_
      unfold flushP
      split
      · exact Nat.le_succ _
      · simp
    · split
      · refine goesP_len (by omega) ?_
        unfold lightP
        split <;> exact Nat.le_succ _
      · unfold crashP
        split
        · simp [dev0]
        · split <;> simp [dev0]
theorem DevR.shape {w : World} {v : Value} {d : Dev} (h : DevR w v d) : ∃ px pc cx cc, v = .agg #[.slice px d.pages.length pc, .slice cx d.cache.length cc, .int .i64 d.fuse, .bool d.off] := by
  obtain ⟨x, y, cap, cm, h1, _, _⟩ := h
  exact ⟨x, cap, y, cm, h1⟩
section
variable {d : Dev} {v : Value} {w : World}
theorem put_R (hg : DGood d) (hc : d.cache.length ≤ 1000000) (hv : DevR w v d) (k : Int) {b : List Sec} (hb : BOk b) :
    Calls Try.prog 33 #[v, .int .i64 k, .agg (blkC b).toArray] w fun e w' => ∃ u, e = .returned (.tuple #[u, .int .i64 (goesP d (putP d k b)).1]) ∧ DevO w.heap.size w' u (goesP d (putP d k b)).2 ∧ Below w.heap.size w w' := by
  obtain ⟨x, y, cap, cm, rfl, h2, h3⟩ := hv
  exact put_any d.pages d.cache d.fuse d.off x y cap cm k b hb w hg.n1 hc h2 h3 hg.pages hg.cache
theorem flush_R (hg : DGood d) (hc : d.cache.length ≤ 1000000) (hv : DevR w v d) :
    Calls Try.prog 35 #[v] w fun e w' => ∃ u, e = .returned (.tuple #[u, .int .i64 (goesP d (flushP d)).1]) ∧ DevO w.heap.size w' u (goesP d (flushP d)).2 ∧ Below w.heap.size w w' := by
  obtain ⟨x, y, cap, cm, rfl, h2, h3⟩ := hv
  exact flush_any d.pages d.cache d.fuse d.off x y cap cm w hg.n1 hc h2 h3 hg.pages hg.cache
theorem crash_R (hg : DGood d) (hc : d.cache.length ≤ 1000000) (hv : DevR w v d) {ms : List Int} {mv : Value} (hm6 : ms.length ≤ 1000000) (hm : Ints w mv ms) :
    Calls Try.prog 17 #[v, mv] w fun e w' => ∃ u, e = .returned (.tuple #[u, .int .i64 (crashP d ms).1]) ∧ DevO w.heap.size w' u (crashP d ms).2 ∧ Below w.heap.size w w' := by
  obtain ⟨x, y, cap, cm, rfl, h2, h3⟩ := hv
  exact crash_any d.pages d.cache d.fuse d.off x y cap cm ms mv w hg.n1 hc hm6 h2 h3 hg.pages hg.cache hm
theorem read_R (hg : DGood d) (hc : d.cache.length ≤ 1000000) (hv : DevR w v d) (k : Int) :
    Calls Try.prog 70 #[v, .int .i64 k] w fun e w' => e = .returned (.tuple #[.agg (blkC (readP d k).2).toArray, .int .i64 (readP d k).1]) ∧ Below w.heap.size w w' := by
  obtain ⟨x, y, cap, cm, rfl, h2, h3⟩ := hv
  exact read_any d.pages d.cache d.fuse d.off x y cap cm k w hg.n1 hc h2 h3 hg.pages hg.cache
theorem check_R (hg : DGood d) (hv : DevR w v d) :
    Calls Try.prog 45 #[v] w fun e w' => e = .returned (.int .i64 (if rightD d then 0 else 260)) ∧ Below w.heap.size w w' := by
  obtain ⟨x, y, cap, cm, rfl, h2, h3⟩ := hv
  exact check_D x y d.pages.length cap cm d.cache d.fuse d.off w (by have := hg.n1; omega) hg.cache h3 _ (by rw [rightD_eq])
theorem same_iff (d e : Dev) : (d.fuse = e.fuse ∧ d.off = e.off ∧ d.pages = e.pages ∧ d.cache = e.cache) ↔ d = e := by
  cases d; cases e
  simp only [Dev.mk.injEq]
  constructor
  · rintro ⟨h1, h2, h3, h4⟩; exact ⟨h3, h4, h1, h2⟩
  · rintro ⟨h1, h2, h3, h4⟩; exact ⟨h3, h4, h1, h2⟩
end
def newD (n : Nat) : Dev := ⟨List.replicate n zeroB, [], -1, false⟩
theorem newD_good {n : Nat} (hn : n ≤ 1000) : DGood (newD n) := ⟨fun b hb => by rw [List.eq_of_mem_replicate hb]; exact zeroB_bok, fun b hb => absurd hb (by simp [newD]), fun b hb => absurd hb (by simp [newD]), by simpa [newD] using hn⟩
theorem made_dev {base : Nat} {w : World} {p : Value} {n : Nat} (h : w.ownsRow base 38 132 p n ((List.replicate n zeroB).flatMap blkC)) : DevO base w (.agg #[p, .slice none 0 0, .int .i64 (-1), .bool false]) (newD n) := by
  refine ⟨p, .slice none 0 0, rfl, ?_, World.ownsRow_nil _ _ _ _⟩
  show w.ownsRow base _ 132 p (List.replicate n zeroB).length _
  rw [List.length_replicate]; exact h
theorem new_R (n : Nat) (h24 : 24 ≤ n) (h256 : n ≤ 256) (w : World) :
    Calls Try.prog 10 #[.int .i64 (n : Int)] w fun e w' => ∃ u, e = .returned (.tuple #[u, .int .i64 0]) ∧ DevO w.heap.size w' u (newD n) ∧ Below w.heap.size w w' := by
  refine (new_any n h24 h256 w).mono ?_
  rintro e w' ⟨p, rfl, h, hb⟩
  exact ⟨_, rfl, made_dev h, hb⟩
end Go.Proofs.Ytjnnnnolikbjcaa
end
