/-
  DEVICES: Same.
-/
import Derived.Test.YtapdigcpaebjiaaDvB
import Derived.Test.YtapdigcpaebjiaaChain2
import Derived.Test.YtapdigcpaebjiaaKn
section
namespace Go.Proofs.Ytapdigcpaebjiaa
open Go.ChangeShapes Go.WideShapes Go.ChangeAt Go.RowKit Agg Pg Dv

set_option maxHeartbeats 4000000 in
set_option maxRecDepth 100000 in
theorem same_D (P Q : List (List Sec)) (C D : List (Int × List Sec)) (x y x2 y2 : Option Addr) (cp cc cp2 cc2 : Nat) (z z2 : Int) (o o2 : Bool) (w : World)
    (hP : ∀ b ∈ P, BOk b) (hQ : ∀ b ∈ Q, BOk b) (hC : ∀ b ∈ C, WOk b) (hD : ∀ b ∈ D, WOk b)
    (h1 : Pgs w (.slice x P.length cp) P) (h2 : Wrs w (.slice y C.length cc) C) (h3 : Pgs w (.slice x2 Q.length cp2) Q) (h4 : Wrs w (.slice y2 D.length cc2) D) (r : Bool) (hr : decide (z = z2 ∧ o = o2 ∧ P = Q ∧ C = D) = r) :
    Calls Try.prog 21 #[.agg #[.slice x P.length cp, .slice y C.length cc, .int .i64 z, .bool o], .agg #[.slice x2 Q.length cp2, .slice y2 D.length cc2, .int .i64 z2, .bool o2]] w fun e w' => e = .returned (.bool r) ∧ Below w.heap.size w w' := by
  have HE1 := Lib.hid (fun W a b => equalB_any P Q (.slice x P.length cp) (.slice x2 Q.length cp2) W a b hP hQ _ rfl)
  have HE2 := Lib.hid (fun W a b => equalW_any C D (.slice y C.length cc) (.slice y2 D.length cc2) W a b hC hD _ rfl)
  have H1 := Lib.hid h1
  have H2 := Lib.hid h2
  have H3 := Lib.hid h3
  have H4 := Lib.hid h4
  have HR := Lib.hid hr
  obtain ⟨q1, hq1⟩ : ∃ q, decide (P = Q) = q := ⟨_, rfl⟩
  obtain ⟨q2, hq2⟩ : ∃ q, decide (C = D) = q := ⟨_, rfl⟩
  rw [hq1] at HE1
  rw [hq2] at HE2
  have HQ1 := Lib.hid hq1
  have HQ2 := Lib.hid hq2
  clear hP hQ hC hD h1 h2 h3 h4 hr hq1 hq2
  have HB := Lib.hid (Below.refl w.heap.size w)
  go_enter Try.func21, Try.ntmps21
  by_cases hz : z = z2
  · subst hz
    by_cases ho : o = o2
    · subst ho
      have hoo : (o == o) = true := by simp
      go_wp2_with fail
      clear hoo
      refine Agg.calls_at fun w1 hw1 => ?_
      have hb : Below w.heap.size w w1 := by rw [hw1.out]; repeat (first | exact Below.refl _ _ | refine Agg.bel_drew ?_ | refine Agg.bel_alloc ?_ _)
      replace HB := Lib.hid (HB.out.trans (hb.mono HB.out.size))
      replace H1 := Lib.hid (H1.out.keep hb)
      replace H2 := Lib.hid (H2.out.keep hb)
      replace H3 := Lib.hid (H3.out.keep hb)
      replace H4 := Lib.hid (H4.out.keep hb)
      clear hb
      have HA : Hid (Blk w1 w.heap.size 36 [.slice x P.length cp, .slice y C.length cc, .int .i64 z, .bool o]) := by show Blk _ _ _ _; rw [hw1.out]; exact (Blk.new w 36 #[.slice x P.length cp, .slice y C.length cc, .int .i64 z, .bool o]).al _
      have HA2 : Hid (Blk w1 (w.heap.size + 1) 36 [.slice x2 Q.length cp2, .slice y2 D.length cc2, .int .i64 z, .bool o]) := by show Blk _ _ _ _; rw [hw1.out]; exact Blk.newAt (w.alloc _) 36 #[.slice x2 Q.length cp2, .slice y2 D.length cc2, .int .i64 z, .bool o] _ (by simp)
      clear hw1
      refine (HE1.out w1 H1.out H3.out).mono ?_
      rintro e w2 ⟨rfl, hb⟩
      replace HB := Lib.hid (HB.out.trans (hb.mono HB.out.size))
      replace H1 := Lib.hid (H1.out.keep hb)
      replace H2 := Lib.hid (H2.out.keep hb)
      replace H3 := Lib.hid (H3.out.keep hb)
      replace H4 := Lib.hid (H4.out.keep hb)
      replace HA := Lib.hid (HA.out.keep hb)
      replace HA2 := Lib.hid (HA2.out.keep hb)
      clear hb
      cases q1
      · obtain rfl : r = false := by rw [← HR.out]; have := HQ1.out; simp only [decide_eq_false_iff_not] at this ⊢; exact fun h => this h.2.2.1
        go_wp2_with fail
        go_ret
        exact ⟨rfl, HB.out⟩
      · have hpq : P = Q := by have := HQ1.out; simpa using this
        have HPQ := Lib.hid hpq
        clear hpq
        have xHA_0 := HA.out.cell 0
        have xHA_1 := HA.out.cell 1
        have xHA_2 := HA.out.cell 2
        have xHA_3 := HA.out.cell 3
        have lHA := HA.out.lt
        simp only [List.getElem?_cons_zero, List.getElem?_cons_succ] at xHA_0 xHA_1 xHA_2 xHA_3
        have xHA2_0 := HA2.out.cell 0
        have xHA2_1 := HA2.out.cell 1
        have xHA2_2 := HA2.out.cell 2
        have xHA2_3 := HA2.out.cell 3
        have lHA2 := HA2.out.lt
        simp only [List.getElem?_cons_zero, List.getElem?_cons_succ] at xHA2_0 xHA2_1 xHA2_2 xHA2_3
        go_wp2_with fail
        clear xHA_0 xHA_1 xHA_2 xHA_3 lHA xHA2_0 xHA2_1 xHA2_2 xHA2_3 lHA2
        refine (HE2.out w2 H2.out H4.out).mono ?_
        rintro e w3 ⟨rfl, hb⟩
        replace HB := Lib.hid (HB.out.trans (hb.mono HB.out.size))
        replace H1 := Lib.hid (H1.out.keep hb)
        replace H2 := Lib.hid (H2.out.keep hb)
        replace H3 := Lib.hid (H3.out.keep hb)
        replace H4 := Lib.hid (H4.out.keep hb)
        replace HA := Lib.hid (HA.out.keep hb)
        replace HA2 := Lib.hid (HA2.out.keep hb)
        clear hb
        obtain rfl : r = q2 := by rw [← HR.out, ← HQ2.out]; simp [HPQ.out]
        go_wp2_with fail
        go_ret
        exact ⟨rfl, HB.out⟩
    · have hoo : (o == o2) = false := by simpa using ho
      obtain rfl : r = false := by rw [← HR.out]; simp [ho]
      clear ho
      go_wp2_with fail
      go_ret
      exact ⟨rfl, bel_alloc (bel_alloc HB.out _) _⟩
  · have hzz : (z == z2) = false := by simpa using hz
    obtain rfl : r = false := by rw [← HR.out]; simp [hz]
    clear hz
    go_wp2_with fail
    go_ret
    exact ⟨rfl, bel_alloc (bel_alloc HB.out _) _⟩
end Go.Proofs.Ytapdigcpaebjiaa
end
section
/-
  DEVICES: rows of numbers cloned.
-/
namespace Go.Proofs.Ytapdigcpaebjiaa
open Go.ChangeShapes Go.WideShapes Go.ChangeAt Go.RowKit Agg Pg Dv

/-- numbers as cells -/
def iC (l : List Int) : List Value := l.map fun d => Value.int .i64 d
theorem iC_one (l : List Int) : ∀ u ∈ iC l, u.oneCell' = true := by
  intro u hu
  obtain ⟨d, _, rfl⟩ := List.mem_map.1 hu
  rfl
abbrev Ints (w : World) (v : Value) (l : List Int) : Prop := SlR w v 1 l.length (iC l)
theorem tiInt : TI Try.prog 29 3 1 8 (.int .i64 0) := ⟨by kernel_rfl, by kernel_rfl, rfl, by decide⟩
set_option maxRecDepth 100000 in
theorem cloneI_any (l : List Int) (v : Value) (w : World) (hv : Ints w v l) (hn : l.length ≤ 1000000) :
    Calls Try.prog 44 #[v] w fun e w' => ∃ u, e = .returned u ∧ w'.ownsRow w.heap.size 3 1 u l.length (iC l) ∧ Below w.heap.size w w' := by
  rcases hv.2 with ⟨rfl, h0⟩ | ⟨x, cap, rfl, hc1, hc2, h5⟩
  · have hl : l = [] := List.eq_nil_of_length_eq_zero h0
    subst hl
    have HV := Lib.hid hv
    clear hv h0
    have HB := Lib.hid (Below.refl w.heap.size w)
    go_enter Try.func44, Try.ntmps44
    have he : ∀ w : World, (binOp .eql 29 (.slice none 0 0) (.slice none 0 0)).run Try.prog w = .ok (.bool true) w := fun _ => rfl
    go_wp2_with fail
    go_ret
    exact ⟨_, rfl, World.ownsRow_nil _ _ _ _, HB.out⟩
  · have hc3 : cap ≤ 9223372036854775807 := by unfold maxLen at hc2; omega
    have hs := Lib.hid (SlR.keep hv ((Below.refl _ w).alloc (Nat.le_refl _) (.cells #[] 3)))
    have hown := Lib.hid (World.ownsRow_lit (e := 3) (size := 1) (base := w.heap.size) w #[] 0 (Nat.le_refl _) (by decide) rfl)
    clear hv h5 hc1 hc2
    have HB := Lib.hid (Below.refl w.heap.size w)
    go_enter Try.func44, Try.ntmps44
    have he : ∀ w : World, (binOp .eql 29 (.slice (some x) l.length cap) (.slice none 0 0)).run Try.prog w = .ok (.bool false) w := fun _ => rfl
    go_wp2_with (refine Agg.append tiInt _ _ rfl rfl w.heap.size (v := .slice (some ⟨w.heap.size, 0, none⟩) 0 0) rfl hown.out rfl hs.out (iC_one l) (by unfold maxLen; omega) (by omega) (by simp) ?_; intro v' w' ho hg hnil; simp only [Act.put, List.setIfInBounds_toArray, List.set_cons_succ, List.set_cons_zero])
    go_ret
    refine ⟨v', rfl, ?_, ?_⟩
    · simpa using ho
    · exact ((Below.refl _ w).alloc (Nat.le_refl _) _).trans ((grown_below hg (B := w.heap.size) (by simp) (by simp [Value.ownBlock])))
end Go.Proofs.Ytapdigcpaebjiaa
end
section
/-
  APPEND to a fresh literal: append([]T{}, xs...), in a region that draws its order. Over any program.
-/
namespace Agg
open Go Go.RowKit
theorem run_append_fresh {P : Program} {t e : TypeId} {size bytes : Nat} {z : Value} (T : TI P t e size bytes z) (ty : TypeId) (w : World) {g b0 : Nat} (hb : b0 ≤ g) (hB : Blk w g e []) {xv : Value} {m : Nat} {news : List Value}
    (hsl : SlR w xv size m news) (h1 : ∀ u ∈ news, u.oneCell' = true) (h63 : m ≤ maxLen) (hbytes : m * bytes ≤ 140737488355328) :
    ∃ v' w', (Builtin.append_ #[t, t] ty #[.slice (some ⟨g, 0, none⟩) 0 0, xv]).run P w = .ok v' w' ∧ w'.ownsRow (Nat.min b0 w.heap.size) e size v' m news ∧ Below w.heap.size w w' := by
  have hown : w.ownsRow (Nat.min b0 w.heap.size) e size (.slice (some ⟨g, 0, none⟩) 0 0) 0 [] := by
    refine ⟨by simp, .inr ⟨g, 0, #[], rfl, Nat.le_trans (Nat.min_le_left _ _) hb, hB, Nat.le_refl _, by decide, by simp, by simp⟩⟩
  obtain ⟨i, hi, hz, hs, hb2⟩ := T.info
  rcases hsl.2 with ⟨rfl, rfl⟩ | ⟨x, cap, rfl, h3, h4, h5⟩
  · have hn : news = [] := List.eq_nil_of_length_eq_zero (by rw [hsl.1]; simp)
    subst hn
    exact ⟨_, w, run_append_owned_none w _ t ty e i size T.ht hi _ 0 [] hown, hown, Below.refl _ _⟩
  · rcases Nat.eq_zero_or_pos m with hm | hm
    · subst hm
      have hn : news = [] := List.eq_nil_of_length_eq_zero (by rw [hsl.1]; simp)
      subst hn
      refine ⟨_, w, ?_, hown, Below.refl _ _⟩
      simp [Builtin.append_, run_underlying T.ht, Go.sizeOf, typeInfo, hi, Builtin.lenOf, Builtin.firstCells, storeCells, loadCells, loadCellsFrom]
    · have hsz := T.hsz
      obtain ⟨v', w', hr, h2, hg, _⟩ := run_append_sl T ty w (Nat.min b0 w.heap.size) hown hsl h1 (by omega) (by simpa using hbytes) (Nat.min_le_right _ _)
      have hm' : m ≤ 9223372036854775807 := by unfold maxLen at h63; omega
      have hrun := run_append_grow (P := P) w t ty e i z T.ht hi hz ⟨g, 0, none⟩ 0 0 [] (by simp) (by simp) x m cap news (by rw [hs]; exact hsl.1) h5 (by omega) (by omega)
          (by rw [hb2]; exact growslice_fits (by omega) (by simpa using hbytes))
      rw [hrun] at hr
      cases hr
      refine ⟨_, _, hrun, by simpa using h2, ?_⟩
      exact ((Below.refl _ w).drew).alloc (Nat.le_refl _) _
/-- a call of a function of the program enters it -/
theorem enters {P : Program} {f : FuncId} {fn : Func} {c : Code} (hf : P.funcs[f]? = some fn) (hname : (fn.name == "runtime.NumGoroutine") = false) (hb : fn.body = some c) (args : Array Value) (w : World) : (callFunc f args).run P w = .ok (.enter f args) w := by
  have h1 : fn.name ≠ "runtime.NumGoroutine" := by simpa using hname
  simp [callFunc, hf, h1, hb, Go.mark]
theorem noP {Q : Exit → Act → World → Prop} {a : Act} {w : World} (h : Q .normal a w) : NoP Q .normal a w := h
/-- a row that was made: it lies beyond b0 -/
def OwnSl (b0 : Nat) (e : TypeId) (size m : Nat) (cs : List Value) (v : Value) (w : World) : Prop := w.ownsRow b0 e size v m cs
theorem OwnSl.stable (b0 : Nat) (e : TypeId) (size m : Nat) (cs : List Value) : Stable (OwnSl b0 e size m cs) := fun _ _ _ h hb => own_keep h hb
section
variable {n kk : Nat} {P : Program} {l rest : List Oper} {W : World} {l0 : List Value} {ds : List Deferred} {acc : List R} {o : Oper} {fin : List R → Prop}
/-- append([]T{}, xs...) -/
theorem chAppendNew {t e : TypeId} {size bytes : Nat} {z : Value} (T : TI P t e size bytes z) {ts : Nat} {x : Operand} (j : Nat) {xv : Value} (m : Nat) (news : List Value) (hsl : SlR W xv size m news)
    (h1 : ∀ u ∈ news, u.oneCell' = true) (h63 : m ≤ maxLen) (hbytes : m * bytes ≤ 140737488355328)
    (ho : o.op = .call { callee := .builtin .append, args := #[.tmp ts, x], argTypes := #[t, t] }) (hd : depL o j = true) (hj : look kk acc j = some (.op (NewSl W.heap.size e 0 []))) (ht : (l[j]?).map (·.dst) = some (some ts))
    (hx : rd (l.take n) l0 kk acc o x = some xv) (hw : wants kk acc o = some true) (hk : gOk l o = true)
    (h : ChainR n P l.toArray W ⟨l0.toArray, ds⟩ (kk + 1) ((.op (OwnSl W.heap.size e size m news)) :: acc) rest fin) : ChainR n P l.toArray W ⟨l0.toArray, ds⟩ kk acc (o :: rest) fin :=
  chRun (r := .op (OwnSl W.heap.size e size m news)) (by rw [ho]; rfl) hw hk (OwnSl.stable _ _ _ _ _) (fun a w hh => by
    obtain ⟨v, hv, ⟨g, rfl, hg0, hgB⟩⟩ := hh.op j ts hd hj ht
    have hx' := hh.rd hx
    obtain ⟨v', w', hr, ho', hb'⟩ := run_append_fresh T o.type w hg0 hgB (hsl.keep hh.below) h1 h63 hbytes
    refine ⟨v', w', ?_, ?_, hb'⟩
    · simp [execOp, ho, resolve, hv, hx', invoke, builtin, hr]
    · rw [show Nat.min W.heap.size w.heap.size = W.heap.size from Nat.min_eq_left hh.below.size] at ho'
      exact ho') h
end
end Agg
end
