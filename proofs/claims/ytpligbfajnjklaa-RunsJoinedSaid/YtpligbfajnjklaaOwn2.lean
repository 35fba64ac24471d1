/-
  THE WALKS OF LAYER 7 (runs): the times of runs (all, AppendSeq, Collect, Times).
-/
import Derived.Test.YtpligbfajnjklaaRu7
import Derived.Test.YtpligbfajnjklaaRuH
import Derived.Test.YtpligbfajnjklaaIter
import Derived.Test.YtpligbfajnjklaaRow
section
namespace Go.Proofs.Ytpligbfajnjklaa
open Go.ChangeShapes Go.WideShapes Go.ChangeAt Go.RowKit Agg Pg Ru
attribute [local go_sem] Oper.semAt_some

theorem all_any (x : Option Addr) (n cap : Nat) (w : World) :
    Calls Try.prog 42 #[.slice x n cap] w fun e w' => e = .returned (.func (.func 54) #[] #[.pointer (some ⟨w.heap.size, 0, none⟩)]) ∧ Blk w' w.heap.size 24 [.slice x n cap] ∧ Below w.heap.size w w' := by
  have HB := Lib.hid (Below.refl w.heap.size w)
  go_enter Try.func42, Try.ntmps42
  go_wp2_with fail
  go_ret
  exact ⟨rfl, Blk.new w 24 #[.slice x n cap], bel_alloc HB.out _⟩
theorem appendS {P : Program} {ops : Array Oper} {rest : List Oper} {o : Oper} {a : Act} {w : World} {Q : Exit → Act → World → Prop} {t e : TypeId} {size bytes : Nat} {z : Value} (T : TI P t e size bytes z) (s x : Operand) (hg : o.guard = none) (ho : o.op = .call { callee := .builtin .append, args := #[s, x], argTypes := #[t, t] })
    (base : Nat) {v : Value} {n : Nat} {xs : List Value} (hs : a.eval s = v) (hown : w.ownsRow base e size v n xs) {xv : Value} {m : Nat} {news : List Value} (hx : a.eval x = xv) (hsl : SlR w xv size m news)
    (h1 : ∀ u ∈ news, u.oneCell' = true) (h63 : n + m ≤ maxLen) (hbytes : (n + m) * bytes ≤ 140737488355328) (hbase : base ≤ w.heap.size)
    (h : ∀ vx vc w', w'.ownsRow base e size (.slice vx (n + m : Nat) vc) (n + m) (xs ++ news) → w.grownBy w' v.ownBlock → wpList P ops Q rest (a.put o.dst (.slice vx (n + m : Nat) vc)) w') : wpList P ops Q (o :: rest) a w := by
  refine Agg.append T s x hg ho base hs hown hx hsl h1 h63 hbytes hbase (fun v' w' h2 h3 _ => ?_)
  obtain ⟨vx, vc, rfl, _, _⟩ := (ownSl h2).shape
  exact h vx vc w' h2 h3
theorem tC_snoc {xs : List Int} {k : Nat} (h : k < xs.length) : tC (xs.take (k + 1)) = tC (xs.take k) ++ [.int .i64 xs[k]] := by
  rw [List.take_succ_eq_append_getElem h]; unfold tC; rw [List.map_append]; rfl
def NoOwn : World → Nat → Prop := fun _ _ => False
theorem KpO.below {n0 : Nat} {A B : World} (h : Below A.heap.size A B) (hn : n0 ≤ A.heap.size) : KpO n0 NoOwn A B :=
  ⟨h.mono hn, h.size, fun _ b hb => hb.elim, fun _ _ hb _ => ⟨hb.keep h, id⟩⟩
set_option maxHeartbeats 4000000 in
set_option maxRecDepth 100000 in
theorem appendSeq_any (gf : FuncId) (gfn : Func) (gc : Code) (lb : Array Value) (w0 w : World) (xs : List Int) (hxs : xs.length ≤ 1000000) (hgf : Try.prog.funcs[gf]? = some gfn) (hgn : (gfn.name == "runtime.NumGoroutine") = false) (hgb : gfn.body = some gc)
    (hb0 : Below w0.heap.size w0 w) (hsz : w0.heap.size ≤ w.heap.size)
    (hit : Iter Try.prog gf lb (fun t => #[.int .i64 t]) (fun A B => Below A.heap.size A B) (KpO w0.heap.size NoOwn) xs (OkO w0 0 NoOwn)) :
    Calls Try.prog 53 #[.slice none 0 0, .func (.func gf) #[] lb] w fun e w' => ∃ u, e = .returned u ∧ w'.ownsRow w.heap.size 2 1 u xs.length (tC xs) ∧ Below w.heap.size w w' := by
  have HIT := Lib.hid hit
  have HX := Lib.hid hxs
  have HB0 := Lib.hid hb0
  have HSZ := Lib.hid hsz
  clear hit hxs hb0 hsz
  have HB := Lib.hid (Below.refl w.heap.size w)
  refine Agg.calls_of_marks Try.func53 rfl ?_
  simp only [Try.ntmps53, List.size_toArray, List.length_cons, List.length_nil, Nat.reduceAdd, Nat.reduceSub, Array.replicate_succ, Array.replicate_zero, List.push_toArray, List.append_toArray, List.nil_append, List.cons_append]
  go_upto_region 1 with (fail)
  have H1 := Lib.hid (Blk.new w 22 #[.slice none 0 0])
  have hB1 := Lib.hid (bel_alloc HB.out (.cells #[.slice none 0 0] 22))
  refine Agg.wp_at fun wB hwB => ?_
  rw [← hwB.out] at H1 hB1
  have HBW : Hid (Below w.heap.size w wB) := Lib.hid hB1.out
  have HOKW : Hid (Below w0.heap.size w0 wB) := Lib.hid (HB0.out.trans (hB1.out.mono HSZ.out))
  clear hwB hB1
  go_wp2_with fail
  have hszW := HBW.out.size
  refine Agg.range_iter rfl (Agg.enters hgf hgn hgb) HIT.out (fun W h => ⟨HOKW.out.trans (h.mono HOKW.out.size), Nat.zero_le _, fun _ hb => hb.elim⟩)
    (fun A B h => ⟨none, ⟨h.os, h.tape, h.output, h.size, fun k hk _ => h.block k hk⟩, fun r e => by cases e⟩) (fun A B C h1 h2 => h1.trans h2) (fun A B h => ?_) (fun x => rfl)
    (fun k W => ∃ v, Blk W w.heap.size 22 [v] ∧ W.ownsRow w.heap.size 2 1 v k (tC (xs.take k)) ∧ Below w.heap.size w W ∧ wB.heap.size ≤ W.heap.size) (fun _ _ _ => False)
    (fun k A B h hT => ?_) (fun _ _ _ _ h _ => h) (fun k A B h hab => ?_) (fun _ _ _ _ h _ => h) (fun W h => ?_) ?_ ?_ (fun _ _ _ _ _ _ h => h.elim)
  · have hn : w0.heap.size ≤ wB.heap.size := Nat.le_trans HSZ.out hszW
    obtain ⟨l, o, o', rfl, hl, ho, hc⟩ := h
    have hT : Turn wB.heap.size A (A.putObj l o') := ⟨l, o, o', rfl, hl, ho, hc⟩
    exact ⟨hT.below (Below.refl _ _) hn, by rw [World.putObj_size]; exact Nat.le_refl _, fun _ b hb => hb.elim, fun _ _ hb _ => ⟨hT.blk hb, id⟩⟩
  · obtain ⟨v, h1, h2, h3, h4⟩ := h
    have h5 := hT.below h3 hszW
    obtain ⟨l, o, o', rfl, hl, ho, hc⟩ := hT
    have hT : Turn wB.heap.size A (A.putObj l o') := ⟨l, o, o', rfl, hl, ho, hc⟩
    exact ⟨v, hT.blk h1, hT.own h2, h5, by rw [World.putObj_size]; exact h4⟩
  · obtain ⟨v, h1, h2, h3, h4⟩ := h
    exact ⟨v, h1.keep hab, own_keep h2 hab, h3.trans (hab.mono h3.size), Nat.le_trans h4 hab.size⟩
  · exact ⟨_, H1.out.keep h, World.ownsRow_nil _ _ _ _, HBW.out.trans (h.mono hszW), h.size⟩
  · rintro lr k hk W hszk ⟨v, h1, h2, h3, h4⟩
    obtain ⟨vx, vc, rfl, _, _⟩ := (ownSl h2).shape
    refine Agg.region_in Agg.false_no rfl ?_
    simp only [List.zip_toArray, List.zip_cons_cons, List.zip_nil_left, List.zip_nil_right, List.foldl_toArray, List.foldl_cons, List.foldl_nil, List.setIfInBounds_toArray, List.set_cons_succ, List.set_cons_zero]
    go_wp2_with fail
    refine ⟨KeepsFrom.refl _ _, KpO.below (Below.refl _ _) (Nat.le_trans HSZ.out (Nat.le_trans hszW h4)), fun W2 hT => ?_⟩
    have H1 := Lib.hid (hT.blk h1)
    have HD := Lib.hid (hT.own h2)
    have HBX := Lib.hid (hT.below h3 hszW)
    have hsW : W2.heap.size = W.heap.size := by obtain ⟨l, o, o', rfl, _⟩ := hT; exact World.putObj_size
    have HS2 : Hid (wB.heap.size ≤ W2.heap.size) := Lib.hid (by omega)
    clear h1 h2 h3 h4 hT hsW hszk HOKW HIT HBW
    have hkx : k + 1 ≤ 1000000 := by have := HX.out; omega
    have HTC := Lib.hid (tC_snoc hk)
    generalize xs[k] = t at *
    refine wpIn_block ?_
    refine Agg.region_in (Agg.block_no Agg.roundEnd_no) rfl ?_
    have c0 := H1.out.cell 0
    simp only [List.getElem?_cons_zero] at c0
    have hbA : Below W2.heap.size W2 (W2.alloc (.cells #[.int .i64 t] 2)) := (Below.refl _ _).alloc (Nat.le_refl _) _
    have hC3 := own_keep HD.out hbA
    have hsl : SlR (W2.alloc (.cells #[.int .i64 t] 2)) (.slice (some ⟨W2.heap.size, 0, none⟩) 1 1) 1 1 [.int .i64 t] := NewSl.sl (b0 := 0) (e := 2) ⟨_, rfl, Nat.zero_le _, Blk.new W2 2 #[.int .i64 t]⟩ rfl (by unfold maxLen; decide)
    have hlw : w.heap.size ≤ (W2.alloc (.cells #[.int .i64 t] 2)).heap.size := Nat.le_trans hszW (Nat.le_trans HS2.out hbA.size)
    have hmx : k + 1 ≤ maxLen := by unfold maxLen; omega
    have hby : (k + 1) * 8 ≤ 140737488355328 := by omega
    have hone : ∀ u ∈ [Value.int .i64 t], u.oneCell' = true := by simp [Value.oneCell']
    have hT3 := H1.out.keep hbA
    have hne := own_apart hC3 hT3 (by decide)
    go_wp2_with (first
      | (refine appendS ti22 (.tmp 8) (.tmp 10) rfl rfl w.heap.size (v := .slice vx k vc) rfl hC3 rfl hsl hone hmx hby hlw (fun v2x v2c w4 hC4 hg4 => ?_))
      | (refine Agg.gStoreCell 0 (.slice v2x (k + 1 : Nat) v2c) (blk_row hT3 hg4 hne) rfl rfl rfl rfl rfl (by kernel_rfl) rfl (by simp) rfl (fun w13 hb13 hg13 => ?_)))
    simp only [spliced, List.take_zero, List.drop_succ_cons, List.drop_zero, List.nil_append, List.cons_append] at hb13
    have hT4 := blk_row hT3 hg4 hne
    have hC13 := hC4.kept hg13 (own_apart hC4 hT4 (by decide))
    have hB4 := (HBX.out.trans (hbA.mono HBX.out.size)).trans (grown_below hg4 hlw (own_block hC3))
    have hB13 := hB4.trans (grown_below hg13 (Nat.le_trans hlw hg4.size) (fun j hj => by cases hj; exact Nat.le_refl _))
    have hn2 : w0.heap.size ≤ W2.heap.size := Nat.le_trans HSZ.out (Nat.le_trans hszW HS2.out)
    have hn3 := Nat.le_trans hn2 hbA.size
    have hs13 : W2.heap.size ≤ w13.heap.size := Nat.le_trans hbA.size (Nat.le_trans hg4.size hg13.size)
    refine ⟨((Agg.keeps_below hbA).trans (Agg.keeps_own hC3 hg4)).trans (Agg.keeps_blk hT4 hg13), ⟨?_, hs13, fun _ b hb => hb.elim, fun g cs hb _ => ⟨?_, id⟩⟩, ⟨_, hb13, ?_, hB13, Nat.le_trans HS2.out hs13⟩⟩
    · exact ((hbA.mono hn2).trans (grown_below hg4 hn3 (fun j hj => Nat.le_trans HSZ.out (own_block hC3 j hj)))).trans (grown_below hg13 (Nat.le_trans hn3 hg4.size) (fun j hj => by cases hj; exact HSZ.out))
    · have hbK := hb.keep hbA
      have hb4 := blk_row hbK hg4 (own_apart hC3 hbK (by decide))
      have hx := blk_ne hT4 hb4 (by decide)
      exact blk_row hb4 hg13 (.inr (fun e => hx (by injection e)))
    · rw [HTC.out]; exact hC13
  · rintro D W hD ⟨v, h1, h2, h3, h4⟩ hDl
    rw [List.take_length] at h2
    obtain ⟨vx, vc, rfl, _, _⟩ := (ownSl h2).shape
    have c0 := h1.cell 0
    simp only [List.getElem?_cons_zero] at c0
    have hT := Agg.shut_turn hDl hD
    have hTb := hT.own h2
    have hTc := hT.below h3 hszW
    have HA := Lib.hid hTb
    have HC := Lib.hid hTc
    have HDl := Lib.hid hDl
    clear h1 h2 h3 hT hTb hTc hDl
    go_wp2_with fail
    refine Agg.marks_ret1 (v := .slice vx xs.length vc) HDl.out ?_ ⟨_, rfl, HA.out, HC.out⟩
    exact results_tmp (t := 4) rfl _ _ _
theorem own_base {w : World} {b b' : Nat} {e : TypeId} {sz n : Nat} {v : Value} {xs : List Value} (h : w.ownsRow b e sz v n xs) (hb : b' ≤ b) : w.ownsRow b' e sz v n xs :=
  ⟨h.1, h.2.imp id (fun ⟨g, cap, cur, h1, h2, h3⟩ => ⟨g, cap, cur, h1, Nat.le_trans hb h2, h3⟩)⟩
theorem collect_any (gf : FuncId) (gfn : Func) (gc : Code) (lb : Array Value) (w0 w : World) (xs : List Int) (hxs : xs.length ≤ 1000000) (hgf : Try.prog.funcs[gf]? = some gfn) (hgn : (gfn.name == "runtime.NumGoroutine") = false) (hgb : gfn.body = some gc)
    (hb0 : Below w0.heap.size w0 w) (hsz : w0.heap.size ≤ w.heap.size)
    (hit : Iter Try.prog gf lb (fun t => #[.int .i64 t]) (fun A B => Below A.heap.size A B) (KpO w0.heap.size NoOwn) xs (OkO w0 0 NoOwn)) :
    Calls Try.prog 41 #[.func (.func gf) #[] lb] w fun e w' => ∃ u, e = .returned u ∧ w'.ownsRow w.heap.size 2 1 u xs.length (tC xs) ∧ Below w.heap.size w w' := by
  have HC := Lib.hid (appendSeq_any gf gfn gc lb w0 w xs hxs hgf hgn hgb hb0 hsz hit)
  clear hit hxs hb0 hsz hgf hgn hgb
  go_enter Try.func41, Try.ntmps41
  go_wp2_with fail
  refine HC.out.mono ?_
  rintro e w1 ⟨u, rfl, h1, h2⟩
  obtain ⟨vx, vc, rfl, _, _⟩ := (ownSl h1).shape
  have H1 := Lib.hid h1
  have H2 := Lib.hid h2
  clear h1 h2
  go_wp2_with fail
  go_ret
  exact ⟨_, rfl, H1.out, H2.out⟩
theorem times_any (l : List Rn) (v : Value) (w : World) (hl : Rus w v l) (hw : ∀ r ∈ l, Rw r) :
    Calls Try.prog 25 #[v] w fun e w' => ∃ u, e = .returned (.tuple #[u, .int .i64 (if risesB l then 0 else 170)]) ∧ (if risesB l then w'.ownsRow w.heap.size 2 1 u (times l).length (tC (times l)) else u = .slice none 0 0) ∧ Below w.heap.size w w' := by
  obtain ⟨x, cap, rfl, _⟩ := SlR.shape hl
  have HL := Lib.hid hl
  have HW := Lib.hid hw
  obtain ⟨rb, hrb⟩ : ∃ b, risesB l = b := ⟨_, rfl⟩
  have HRB := Lib.hid hrb
  rw [hrb]
  clear hl hw hrb
  have HB := Lib.hid (Below.refl w.heap.size w)
  go_enter Try.func25, Try.ntmps25
  go_wp2_with fail
  refine (rises_R HL.out HW.out).mono ?_
  rintro e w1 ⟨rfl, hb⟩
  replace HB := Lib.hid (HB.out.trans (hb.mono HB.out.size))
  replace HL := Lib.hid (HL.out.keep hb)
  clear hb
  rw [HRB.out]
  cases rb
  · go_wp2_with fail
    go_ret2
    exact ⟨_, rfl, rfl, HB.out⟩
  · go_wp2_with fail
    refine (all_any x l.length cap w1).mono ?_
    rintro e w2 ⟨rfl, hK, hb2⟩
    have hB2 := HB.out.trans (hb2.mono HB.out.size)
    have hL2 := SlR.keep HL.out hb2
    have hlen : (times l).length ≤ 1000000 := by have := times_len HRB.out; omega
    have HIT := Lib.hid (all1_iter l x cap _ 0 w2 NoOwn HRB.out hK hL2 (fun A B b _ _ => Iff.rfl))
    have HC := Lib.hid (collect_any _ _ _ _ w2 w2 (times l) hlen Try.func54 (by kernel_rfl) rfl (Below.refl _ _) (Nat.le_refl _) HIT.out)
    have HB2 := Lib.hid hB2
    clear hK hb2 hB2 hL2 HIT
    go_wp2_with fail
    refine HC.out.mono ?_
    rintro e w3 ⟨u, rfl, h1, h2⟩
    obtain ⟨vx, vc, rfl, _, _⟩ := (ownSl h1).shape
    have H1 := Lib.hid h1
    have H2 := Lib.hid h2
    clear h1 h2
    go_wp2_with fail
    go_ret2
    have hs2 := HB2.out.size
    exact ⟨_, rfl, own_base H1.out hs2, HB2.out.trans (H2.out.mono hs2)⟩
end Go.Proofs.Ytpligbfajnjklaa
end
section
/-
  THE STATEMENT RunsClipped, layer 7: its plain law and its walk.
-/
namespace Ru
theorem below_idx (t : Int) : ∀ (l : List Int), l.Pairwise (· < ·) → ∀ (i : Nat) (hi : i < l.length), l[i] < t ↔ i < nBelow t l
  | [], _, i, hi => absurd hi (by simp)
  | x :: l, h, i, hi => by
    obtain ⟨h1, h2⟩ := List.pairwise_cons.1 h
    have ih := below_idx t l h2
    by_cases hx : x < t
    · have e : nBelow t (x :: l) = nBelow t l + 1 := by simp [nBelow, hx]
      rw [e]
      cases i with
      | zero => simp [hx]
      | succ j =>
        have := ih j (by simpa using hi)
        simp only [List.getElem_cons_succ]; omega
    · have e : nBelow t (x :: l) = 0 := nBelow_none (fun y hy => by
        rcases List.mem_cons.1 hy with rfl | hy
        · omega
        · have := h1 y hy; omega)
      rw [e]
      have hm : x ≤ (x :: l)[i] := by
        cases i with
        | zero => simp
        | succ j =>
          have := h1 _ (List.getElem_mem (show j < l.length by simpa using hi))
          simp only [List.getElem_cons_succ]; omega
      omega
end Ru
namespace Go.Proofs.Ytpligbfajnjklaa
open Go.ChangeShapes Go.WideShapes Go.ChangeAt Go.RowKit Agg Pg Ru
/-- RunsClipped, in plain Lean -/
theorem clip_law {l : List Rn} (h : risesB l = true) (a b : Int) : ∃ p q : Nat, clipP l a b = ((p : Int), (q : Int)) ∧ p ≤ q ∧ q ≤ (times l).length ∧
    ∀ (i : Nat) (hi : i < (times l).length), (a ≤ (times l)[i] ∧ (times l)[i] ≤ b) ↔ (p ≤ i ∧ i < q) := by
  have hup := (times_up l ((rises_iff l).1 h).2.2.1).1.2
  refine ⟨nBelow a (times l), max (nBelow a (times l)) (nUpto b (times l)), ?_, by omega, ?_, fun i hi => ?_⟩
  · rw [clip_doc h]
    congr 1
    omega
  · have h1 := nBelow_le a (times l)
    have h2 := nBelow_le (b + 1) (times l)
    rw [nBelow_upto] at h2
    omega
  · have h1 := below_idx a (times l) hup i hi
    have h2 := below_idx (b + 1) (times l) hup i hi
    rw [nBelow_upto] at h2
    omega
set_option maxHeartbeats 2000000 in
set_option maxRecDepth 100000 in
theorem clipped_walk (l : List Rn) (v : Value) (a b : Int) (w : World) (ha : I64 a) (hb : I64 b) (hl : Rus w v l) (hw : ∀ r ∈ l, Rw r) :
    Calls Try.prog 6 #[v, .int .i64 a, .int .i64 b] w fun e w' => e = .returned (.bool true) ∧ Below w.heap.size w w' := by
  obtain ⟨x, cap, rfl, _⟩ := SlR.shape hl
  have HL := Lib.hid hl
  have HW := Lib.hid (cut300_rw hw)
  have HA := Lib.hid ha
  have HBB := Lib.hid hb
  clear hl hw ha hb
  have HB := Lib.hid (Below.refl w.heap.size w)
  go_enter Try.func6, Try.ntmps6
  go_wp2_with fail
  refine (wakes_any w).mono ?_
  rintro e w1 ⟨rfl, hb⟩
  replace HB := Lib.hid (HB.out.trans (hb.mono HB.out.size))
  replace HL := Lib.hid (HL.out.keep hb)
  clear hb
  go_wp2_with fail
  refine (own_any l _ w1 HL.out).mono ?_
  rintro e w2 ⟨u, rfl, hu, hb⟩
  replace HB := Lib.hid (HB.out.trans (hb.mono HB.out.size))
  replace HL := Lib.hid (HL.out.keep hb)
  clear hb
  have HU : Hid (Rus w2 u (cut300 l)) := Lib.hid (own_rus hu)
  clear hu
  generalize cut300 l = L at *
  obtain ⟨ux, uc, rfl, _, _⟩ := SlR.shape HU.out
  obtain ⟨cv, hcv⟩ : ∃ r, clipP L a b = r := ⟨_, rfl⟩
  have HCC := Lib.hid hcv
  clear hcv
  go_wp2_with fail
  refine (clip_any L _ a b w2 HA.out HBB.out HU.out HW.out).mono ?_
  rintro e w3 ⟨rfl, hb⟩
  replace HB := Lib.hid (HB.out.trans (hb.mono HB.out.size))
  replace HU := Lib.hid (HU.out.keep hb)
  clear hb
  rw [HCC.out]
  go_wp2_with fail
  refine (times_any L _ w3 HU.out HW.out).mono ?_
  rintro e wT ⟨tv, rfl, h1, h2⟩
  have HB2 := Lib.hid (HB.out.trans (h2.mono HB.out.size))
  clear h2
  obtain ⟨rb, hrb⟩ : ∃ b, risesB L = b := ⟨_, rfl⟩
  rw [hrb] at h1 ⊢
  cases rb
  · rw [if_neg Bool.false_ne_true] at h1
    subst h1
    have hc0 : cv = (0, 0) := by rw [← HCC.out, clipP, if_pos hrb]
    subst hc0
    go_wp2_with fail
    go_ret
    exact ⟨rfl, HB2.out⟩
  · rw [if_pos rfl] at h1
    obtain ⟨p, q, hpq, h3, h4, h5⟩ := clip_law hrb a b
    have h256 := times_len hrb
    rw [HCC.out] at hpq
    subst hpq
    have HT := Lib.hid (ownSl h1)
    have H5 := Lib.hid h5
    clear h1 h5 hrb HCC
    have hlen : (times L).length ≤ 256 := by omega
    clear h256
    generalize times L = T at *
    obtain ⟨tx, tc, rfl, _, _⟩ := SlR.shape HT.out
    go_wp2_with fail
    go_loopw [53] (fun i wr => ∃ k : Nat, k ≤ T.length ∧ i = .int .i64 k ∧ wr = wT) (fun i _ => T.length - (intOf i).toNat)
    case atStart => exact ⟨0, by omega, rfl, rfl⟩
    case round =>
      obtain ⟨k, hk, rfl, rfl⟩ := hrel
      by_cases hlt : k < T.length
      · obtain ⟨bb, o, cap', hve, _, _, _, _⟩ := SlR.pos HT.out (by decide) (by omega)
        simp only [Value.slice.injEq, true_and] at hve
        obtain ⟨rfl, rfl⟩ := hve
        have hcs := tms_at HT.out hlt
        rw [Int.toNat_natCast, Nat.mul_one] at hcs
        have hk5 := H5.out k hlt
        obtain ⟨t, ht⟩ : ∃ t, T[k]'hlt = t := ⟨_, rfl⟩
        rw [ht] at hcs hk5
        clear ht
        by_cases c1 : a ≤ t <;> by_cases c2 : t ≤ b <;> by_cases c3 : (p : Int) ≤ k <;> by_cases c4 : (k : Int) < q
        all_goals first
          | (exfalso; omega)
          | (clear hk5; go_wp2_with fail; exact ⟨⟨k + 1, by omega, by go_num, by first | rfl | trivial⟩, by simp [intOf]; omega⟩)
      · obtain rfl : k = T.length := by omega
        go_wp2_with fail
        go_ret
        exact ⟨rfl, HB2.out⟩
theorem RunsClipped_walk (v : Value) (f : Nat) (a b : Int) (w : World) (h : Agg.Good Try.prog w f 24 [v]) (ha : (Lit.int .i64 a).wf = true) (hb : (Lit.int .i64 b).wf = true) :
    Calls Try.prog 6 #[v, .int .i64 a, .int .i64 b] w fun e w' => e = .returned (.bool true) ∧ Below w.heap.size w w' := by
  obtain ⟨l, h1, h2⟩ := good_runs h
  have cv : ∀ {z : Int}, (Lit.int .i64 z).wf = true → I64 z := fun {z} hz => by
    simp [Lit.wf, IntKind.min, IntKind.max, IntKind.signed, IntKind.bits] at hz
    unfold I64; omega
  exact clipped_walk l v a b w (cv ha) (cv hb) h1 h2
end Go.Proofs.Ytpligbfajnjklaa
end
section
/-
  ROWS OF ONE'S OWN, cell by cell. Over any program.
-/
namespace Agg
open Go Go.RowKit
theorem ownBlk {w : World} {base : Nat} {e : TypeId} {sz g n cap : Nat} {xs : List Value} (h : w.ownsRow base e sz (.slice (some ⟨g, 0, none⟩) n cap) n xs) : ∃ r, Blk w g e (xs ++ r) ∧ base ≤ g ∧ n ≤ cap ∧ cap ≤ maxLen ∧ (xs ++ r).length = cap * sz := by
  rcases h.2 with ⟨h1, _⟩ | ⟨g', cap', cur, h1, h2, h3, h4, h5, h6, h7⟩
  · cases h1
  · cases h1
    have e : xs ++ cur.toList.drop (n * sz) = cur.toList := by rw [← h7]; exact List.take_append_drop _ _
    refine ⟨cur.toList.drop (n * sz), ?_, h2, h4, h5, ?_⟩
    · rw [e]; simpa [Blk] using h3
    · rw [e]; simpa using h6
theorem blkOwn {w : World} {base : Nat} {e : TypeId} {sz g n cap : Nat} {xs r : List Value} (h : Blk w g e (xs ++ r)) (hb : base ≤ g) (h4 : n ≤ cap) (h5 : cap ≤ maxLen) (h6 : (xs ++ r).length = cap * sz) (hx : xs.length = n * sz) : w.ownsRow base e sz (.slice (some ⟨g, 0, none⟩) n cap) n xs := by
  refine ⟨hx, .inr ⟨g, cap, (xs ++ r).toArray, rfl, hb, h, h4, h5, by simpa using h6, ?_⟩⟩
  simp [← hx]
theorem spliced_set (xs : List Value) (k : Nat) (v : Value) (h : k < xs.length) : spliced xs k [v] = xs.set k v := by
  unfold spliced
  rw [List.set_eq_take_append_cons_drop, if_pos h]
  simp
/-- a row of one's own: where it lies -/
theorem ownPos {w : World} {base : Nat} {e : TypeId} {sz n : Nat} {v : Value} {xs : List Value} (h : w.ownsRow base e sz v n xs) (hn : 0 < n) : ∃ g cap, v = .slice (some ⟨g, 0, none⟩) n cap := by
  rcases h.2 with ⟨_, h1⟩ | ⟨g', cap', cur, h1, h2, h3, h4, h5, h6, h7⟩
  · omega
  · exact ⟨g', cap', h1⟩
variable {P : Program} {Q : Exit → Act → World → Prop} {o : Oper} {w : World} in
/-- a cell of such a row is stored -/
theorem gStoreOwn {ops : Array Oper} {rest : List Oper} {a : Act} {t : TypeId} {x y : Operand} {base : Nat} {e : TypeId} {g n cap : Nat} {xs : List Value} (k : Nat) (v : Value) (H : w.ownsRow base e 1 (.slice (some ⟨g, 0, none⟩) n cap) n xs) (hk : k < n)
    (hg : o.guard = none) (hd : o.dst = none) (ho : o.op = .store t x y) (hx : a.eval x = .pointer (some ⟨g, k, none⟩)) (hy : a.eval y = v)
    (ht : (P.info? t).map (·.size) = some 1) (hv : v.cells.toList = [v]) (h1 : v.oneCell' = true)
    (h : ∀ w', w'.ownsRow base e 1 (.slice (some ⟨g, 0, none⟩) n cap) n (xs.set k v) → w.grownBy w' (some g) → wpList P ops Q rest a w') : wpList P ops Q (o :: rest) a w := by
  obtain ⟨r, hb, h2, h3, h4, h5⟩ := ownBlk H
  have hxl := H.1
  refine gStoreCell k v hb hg hd ho hx hy ht hv (by rw [List.length_append]; omega) h1 (fun w' hb' hg' => h w' ?_ hg')
  rw [spliced_set _ _ _ (by rw [List.length_append]; omega), List.set_append_left _ _ (by omega)] at hb'
  exact blkOwn hb' h2 h3 h4 (by simpa using h5) (by simpa using hxl)
end Agg
end
