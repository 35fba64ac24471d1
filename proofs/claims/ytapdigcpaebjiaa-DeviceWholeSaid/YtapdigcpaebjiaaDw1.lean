/-
  DEVICES: all contracts over a device that is read.
-/
import Derived.Test.YtapdigcpaebjiaaDvZ
namespace Dv
open Go Go.RowKit Agg Pg
/-- a device whose blocks are whole, of few pages; the numbers of its writes are numbers -/
structure DGood (d : Dev) : Prop where
  pages : ∀ b ∈ d.pages, BOk b
  cache : ∀ x ∈ d.cache, BOk x.2
  nums : ∀ x ∈ d.cache, (Lit.int .i64 x.1).wf = true
  np : d.pages.length ≤ 257
theorem DGood.n1 {d : Dev} (h : DGood d) : d.pages.length ≤ 1000000 := Nat.le_trans h.np (by decide)
theorem DGood.ok {d : Dev} (h : DGood d) : DOk d := ⟨h.pages, h.cache⟩
end Dv
namespace Go.Proofs.Ytapdigcpaebjiaa
open Go.ChangeShapes Go.WideShapes Go.ChangeAt Go.RowKit Agg Pg Dv

theorem DGood.wok {d : Dev} (h : DGood d) : ∀ x ∈ d.cache, WOk x := fun x hx => ⟨h.nums x hx, h.cache x hx⟩
theorem dev0_good : DGood dev0 := ⟨dev0_ok.1, dev0_ok.2, fun b hb => absurd hb (by simp [dev0]), by simp [dev0]⟩
theorem goesP_good {d : Dev} (h : DGood d) {r : Int × Dev} (hr : DGood r.2) : DGood (goesP d r).2 := by
  unfold goesP
  split
  · exact dev0_good
  · split
    · exact h
    · split
      · exact dev0_good
      · exact hr
theorem burnD_good {d : Dev} (h : DGood d) : DGood (burnD d) := ⟨h.pages, h.cache, h.nums, h.np⟩
theorem wf_small {k : Int} (h : 0 ≤ k) (h2 : k < 1000000) : (Lit.int .i64 k).wf = true := by
  simp [Lit.wf, IntKind.min, IntKind.max, IntKind.bits, IntKind.signed]; omega
theorem putP_good {d : Dev} (h : DGood d) (k : Int) {b : List Sec} (hb : BOk b) : DGood (putP d k b).2 := by
  unfold putP
  split
  · exact h
  · rename_i hth
    split
    · exact burnD_good h
    · refine ⟨h.pages, fun x hx => ?_, fun x hx => ?_, h.np⟩
      · rcases List.mem_append.1 hx with hx | hx
        · exact h.cache x hx
        · rw [List.mem_singleton.1 hx]; exact hb
      · rcases List.mem_append.1 hx with hx | hx
        · exact h.nums x hx
        · rw [List.mem_singleton.1 hx]
          obtain ⟨p, rfl, hp⟩ := there_nat (by simpa using hth)
          exact wf_small (by omega) (by have := h.np; omega)
theorem flushP_good {d : Dev} (h : DGood d) : DGood (flushP d).2 := by
  unfold flushP
  split
  · exact burnD_good h
  · exact ⟨(settleAll_ok h.pages d.cache h.cache).2, fun x hx => absurd hx (by simp), fun x hx => absurd hx (by simp), by show (settleAll _ _).length ≤ _; rw [(settleAll_ok h.pages d.cache h.cache).1]; exact h.np⟩
theorem lightP_good {d : Dev} (h : DGood d) (n : Int) : DGood (lightP d n).2 := by
  unfold lightP
  split
  · exact ⟨h.pages, h.cache, h.nums, h.np⟩
  · exact h
theorem crashP_good {d : Dev} (h : DGood d) (ms : List Int) : DGood (crashP d ms).2 := by
  unfold crashP
  split
  · exact dev0_good
  · split
    · exact dev0_good
    · exact ⟨(settleBy_ok h.pages d.cache ms h.cache).2, fun x hx => absurd hx (by simp), fun x hx => absurd hx (by simp), by show (settleBy _ _ _).length ≤ _; rw [(settleBy_ok h.pages d.cache ms h.cache).1]; exact h.np⟩
theorem doesP_good {o : OpD} {d : Dev} (hf : o.fl.Ok) (h : DGood d) : DGood (doesP o d).2 := by
  unfold doesP
  split
  · exact goesP_good h (putP_good h _ (fillB_bok hf))
  · split
    · exact goesP_good h (flushP_good h)
    · split
      · exact goesP_good h (lightP_good h _)
      · exact crashP_good h _
theorem goesP_len {d : Dev} {r : Int × Dev} {n : Nat} (h : d.cache.length ≤ n) (hr : r.2.cache.length ≤ n) : (goesP d r).2.cache.length ≤ n := by
  unfold goesP
  split
  · simp [dev0]
  · split
    · exact h
    · split
      · simp [dev0]
      · exact hr
theorem doesP_len (o : OpD) (d : Dev) : (doesP o d).2.cache.length ≤ d.cache.length + 1 := by
  unfold doesP
  split
  · refine goesP_len (by omega) ?_
    unfold putP
    split
    · exact Nat.le_succ _
    · split
      · exact Nat.le_succ _
      · simp
  · split
    · refine goesP_len (by omega) ?_
      unfold flushP
      split
      · exact Nat.le_succ _
      · simp
    · split
      · refine goesP_len (by omega) ?_
        unfold lightP
        split <;> exact Nat.le_succ _
      · unfold crashP
        split
        · simp [dev0]
        · split <;> simp [dev0]
theorem DevR.shape {w : World} {v : Value} {d : Dev} (h : DevR w v d) : ∃ px pc cx cc, v = .agg #[.slice px d.pages.length pc, .slice cx d.cache.length cc, .int .i64 d.fuse, .bool d.off] := by
  obtain ⟨x, y, cap, cm, h1, _, _⟩ := h
  exact ⟨x, cap, y, cm, h1⟩
section
variable {d : Dev} {v : Value} {w : World}
theorem put_R (hg : DGood d) (hc : d.cache.length ≤ 1000000) (hv : DevR w v d) (k : Int) {b : List Sec} (hb : BOk b) :
    Calls Try.prog 25 #[v, .int .i64 k, .agg (blkC b).toArray] w fun e w' => ∃ u, e = .returned (.tuple #[u, .int .i64 (goesP d (putP d k b)).1]) ∧ DevO w.heap.size w' u (goesP d (putP d k b)).2 ∧ Below w.heap.size w w' := by
  obtain ⟨x, y, cap, cm, rfl, h2, h3⟩ := hv
  exact put_any d.pages d.cache d.fuse d.off x y cap cm k b hb w hg.n1 hc h2 h3 hg.pages hg.cache
theorem flush_R (hg : DGood d) (hc : d.cache.length ≤ 1000000) (hv : DevR w v d) :
    Calls Try.prog 23 #[v] w fun e w' => ∃ u, e = .returned (.tuple #[u, .int .i64 (goesP d (flushP d)).1]) ∧ DevO w.heap.size w' u (goesP d (flushP d)).2 ∧ Below w.heap.size w w' := by
  obtain ⟨x, y, cap, cm, rfl, h2, h3⟩ := hv
  exact flush_any d.pages d.cache d.fuse d.off x y cap cm w hg.n1 hc h2 h3 hg.pages hg.cache
theorem light_R (hg : DGood d) (hc : d.cache.length ≤ 1000000) (hv : DevR w v d) (k : Int) :
    Calls Try.prog 24 #[v, .int .i64 k] w fun e w' => ∃ u, e = .returned (.tuple #[u, .int .i64 (goesP d (lightP d k)).1]) ∧ DevO w.heap.size w' u (goesP d (lightP d k)).2 ∧ Below w.heap.size w w' := by
  obtain ⟨x, y, cap, cm, rfl, h2, h3⟩ := hv
  exact light_any d.pages d.cache d.fuse d.off x y cap cm k w hg.n1 hc h2 h3 hg.pages hg.cache
theorem crash_R (hg : DGood d) (hc : d.cache.length ≤ 1000000) (hv : DevR w v d) {ms : List Int} {mv : Value} (hm6 : ms.length ≤ 1000000) (hm : Ints w mv ms) :
    Calls Try.prog 22 #[v, mv] w fun e w' => ∃ u, e = .returned (.tuple #[u, .int .i64 (crashP d ms).1]) ∧ DevO w.heap.size w' u (crashP d ms).2 ∧ Below w.heap.size w w' := by
  obtain ⟨x, y, cap, cm, rfl, h2, h3⟩ := hv
  exact crash_any d.pages d.cache d.fuse d.off x y cap cm ms mv w hg.n1 hc hm6 h2 h3 hg.pages hg.cache hm
theorem read_R (hg : DGood d) (hc : d.cache.length ≤ 1000000) (hv : DevR w v d) (k : Int) :
    Calls Try.prog 16 #[v, .int .i64 k] w fun e w' => e = .returned (.tuple #[.agg (blkC (readP d k).2).toArray, .int .i64 (readP d k).1]) ∧ Below w.heap.size w w' := by
  obtain ⟨x, y, cap, cm, rfl, h2, h3⟩ := hv
  exact read_any d.pages d.cache d.fuse d.off x y cap cm k w hg.n1 hc h2 h3 hg.pages hg.cache
theorem rRead_R (hg : DGood d) (hc : d.cache.length ≤ 1000000) (hv : DevR w v d) (k : Int) :
    Calls Try.prog 17 #[v, .int .i64 k] w fun e w' => e = .returned (.tuple #[.agg (blkC (readP d k).2).toArray, .int .i64 (readP d k).1]) ∧ Below w.heap.size w w' := by
  obtain ⟨x, y, cap, cm, rfl, h2, h3⟩ := hv
  exact rRead_any d.pages d.cache d.fuse d.off x y cap cm k w hg.n1 hc h2 h3 hg.pages hg.cache
theorem check_R (hg : DGood d) (hv : DevR w v d) :
    Calls Try.prog 20 #[v] w fun e w' => e = .returned (.int .i64 (if rightD d then 0 else 260)) ∧ Below w.heap.size w w' := by
  obtain ⟨x, y, cap, cm, rfl, h2, h3⟩ := hv
  exact check_D x y d.pages.length cap cm d.cache d.fuse d.off w (by have := hg.n1; omega) hg.cache h3 _ (by rw [rightD_eq])
theorem right_R (hg : DGood d) (hv : DevR w v d) :
    Calls Try.prog 19 #[v] w fun e w' => e = .returned (.bool (rightD d)) ∧ Below w.heap.size w w' := by
  obtain ⟨x, y, cap, cm, rfl, h2, h3⟩ := hv
  exact right_D x y d.pages.length cap cm d.cache d.fuse d.off w (by have := hg.n1; omega) hg.cache h3 _ (by rw [rightD_eq])
theorem same_iff (d e : Dev) : (d.fuse = e.fuse ∧ d.off = e.off ∧ d.pages = e.pages ∧ d.cache = e.cache) ↔ d = e := by
  cases d; cases e
  simp only [Dev.mk.injEq]
  constructor
  · rintro ⟨h1, h2, h3, h4⟩; exact ⟨h3, h4, h1, h2⟩
  · rintro ⟨h1, h2, h3, h4⟩; exact ⟨h3, h4, h1, h2⟩
theorem same_R {e : Dev} {u : Value} (hg : DGood d) (hge : DGood e) (hv : DevR w v d) (hu : DevR w u e) (r : Bool) (hr : r = true ↔ d = e) :
    Calls Try.prog 21 #[v, u] w fun z w' => z = .returned (.bool r) ∧ Below w.heap.size w w' := by
  obtain ⟨x, y, cap, cm, rfl, h2, h3⟩ := hv
  obtain ⟨x2, y2, cap2, cm2, rfl, h4, h5⟩ := hu
  refine same_D d.pages e.pages d.cache e.cache x y x2 y2 cap cm cap2 cm2 d.fuse e.fuse d.off e.off w hg.pages hge.pages (DGood.wok hg) (DGood.wok hge) h2 h3 h4 h5 r ?_
  rw [Bool.eq_iff_iff, decide_eq_true_eq, same_iff, hr]
theorem rSame_R {e : Dev} {u : Value} (hg : DGood d) (hge : DGood e) (hv : DevR w v d) (hu : DevR w u e) (r : Bool) (hr : r = true ↔ d = e) :
    Calls Try.prog 13 #[v, u] w fun z w' => z = .returned (.bool r) ∧ Below w.heap.size w w' := by
  obtain ⟨x, y, cap, cm, rfl, h2, h3⟩ := hv
  obtain ⟨x2, y2, cap2, cm2, rfl, h4, h5⟩ := hu
  refine rSame_D d.pages e.pages d.cache e.cache x y x2 y2 cap cm cap2 cm2 d.fuse e.fuse d.off e.off w hg.pages hge.pages (DGood.wok hg) (DGood.wok hge) h2 h3 h4 h5 r ?_
  rw [Bool.eq_iff_iff, decide_eq_true_eq, same_iff, hr]
theorem does_R {o : OpD} {mv : Value} (hf : o.fl.Ok) (hg : DGood d) (hc : d.cache.length ≤ 1000000) (hm : Ints w mv o.ms) (hv : DevR w v d) :
    Calls Try.prog 11 #[.agg (opC o mv).toArray, v] w fun e w' => ∃ u, e = .returned (.tuple #[u, .int .i64 (doesP o d).1]) ∧ DevO w.heap.size w' u (doesP o d).2 ∧ Below w.heap.size w w' := by
  obtain ⟨x, y, cap, cm, rfl, h2, h3⟩ := hv
  exact does_any o mv hf d.pages d.cache d.fuse d.off x y cap cm w hg.n1 hc h2 h3 hg.pages hg.cache hm
theorem wants_R {o : OpD} {mv : Value} (hf : o.fl.Ok) (hg : DGood d) (hc : d.cache.length ≤ 1000000) (hm : Ints w mv o.ms) (hv : DevR w v d) :
    Calls Try.prog 12 #[.agg (opC o mv).toArray, v] w fun e w' => ∃ u, e = .returned (.tuple #[u, .int .i64 (doesP o d).1]) ∧ DevR w' u (doesP o d).2 ∧ Below w.heap.size w w' := by
  obtain ⟨x, y, cap, cm, rfl, h2, h3⟩ := hv
  exact wants_any o mv hf d.pages d.cache d.fuse d.off x y cap cm w hg.n1 hc h2 h3 hg.pages hg.cache hm
end
def newD (n : Nat) : Dev := ⟨List.replicate n zeroB, [], -1, false⟩
theorem newD_good {n : Nat} (hn : n ≤ 257) : DGood (newD n) := ⟨fun b hb => by rw [List.eq_of_mem_replicate hb]; exact zeroB_bok, fun b hb => absurd hb (by simp [newD]), fun b hb => absurd hb (by simp [newD]), by simpa [newD] using hn⟩
theorem made_dev {base : Nat} {w : World} {p : Value} {n : Nat} (h : w.ownsRow base 46 132 p n ((List.replicate n zeroB).flatMap blkC)) : DevO base w (.agg #[p, .slice none 0 0, .int .i64 (-1), .bool false]) (newD n) := by
  refine ⟨p, .slice none 0 0, rfl, ?_, World.ownsRow_nil _ _ _ _⟩
  show w.ownsRow base _ 132 p (List.replicate n zeroB).length _
  rw [List.length_replicate]; exact h
theorem new_R (n : Nat) (h24 : 24 ≤ n) (h256 : n ≤ 256) (w : World) :
    Calls Try.prog 14 #[.int .i64 (n : Int)] w fun e w' => ∃ u, e = .returned (.tuple #[u, .int .i64 0]) ∧ DevO w.heap.size w' u (newD n) ∧ Below w.heap.size w w' := by
  refine (new_any n h24 h256 w).mono ?_
  rintro e w' ⟨p, rfl, h, hb⟩
  exact ⟨_, rfl, made_dev h, hb⟩
theorem rNew_R (n : Nat) (hn : n ≤ 1000) (w : World) :
    Calls Try.prog 15 #[.int .i64 (n : Int)] w fun e w' => ∃ u, e = .returned u ∧ DevO w.heap.size w' u (newD n) ∧ Below w.heap.size w w' := by
  refine (rNew_any n hn w).mono ?_
  rintro e w' ⟨p, rfl, h, hb⟩
  exact ⟨_, rfl, made_dev h, hb⟩
end Go.Proofs.Ytapdigcpaebjiaa
