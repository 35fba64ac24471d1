/-
  ROOTS: of: are all pages of a device?
-/
import Derived.Test.YtjnnnnolikbjcaaRt7
import Derived.Test.YtjnnnnolikbjcaaRFdDw1
section
namespace Go.Proofs.Ytjnnnnolikbjcaa
open Go.ChangeShapes Go.WideShapes Go.ChangeAt Go.RowKit Agg Pg Dv
attribute [local go_sem] Oper.semAt_some

set_option maxHeartbeats 4000000 in
set_option maxRecDepth 100000 in
theorem of1_any (z : Int) (px cx : Option Addr) (np pc nc cc : Nat) (fu : Int) (off : Bool) (g : Nat) (w : World) (hg : Blk w g 30 [.slice px np pc, .slice cx nc cc, .int .i64 fu, .bool off]) (q : Bool) (hq : decide (z ≥ (np : Int)) = q) :
    Calls Try.prog 67 #[.int .i64 z, .pointer (some ⟨g, 0, none⟩)] w fun e w' => e = .returned (.bool q) ∧ Below w.heap.size w w' := by
  have HG := Lib.hid hg
  clear hg
  have HB := Lib.hid (Below.refl w.heap.size w)
  go_enter Try.func67, Try.ntmps67
  have c0 := HG.out.cell 0
  simp only [List.getElem?_cons_zero] at c0
  go_wp2_with fail
  go_ret
  exact ⟨by rw [← hq]; first | rfl | simp, HB.out⟩
set_option maxHeartbeats 4000000 in
set_option maxRecDepth 100000 in
theorem idxF_any (L : List Int) (v : Value) (px cx : Option Addr) (np pc nc cc : Nat) (fu : Int) (off : Bool) (g : Nat) (w : World) (hv : Ints w v L) (hg : Blk w g 30 [.slice px np pc, .slice cx nc cc, .int .i64 fu, .bool off]) :
    Calls Try.prog 77 #[v, .func (.func 67) #[] #[.pointer (some ⟨g, 0, none⟩)]] w fun e w' => ∃ m : Int, e = .returned (.int .i64 m) ∧ decide (m ≥ 0) = !L.all (fun p => decide (p < (np : Int))) ∧ Below w.heap.size w w' := by
  obtain ⟨x, c, rfl, hc1, hc2⟩ := ints_shape hv
  unfold maxLen at hc2
  have HV := Lib.hid hv
  have HG := Lib.hid hg
  clear hv hg
  have HB := Lib.hid (Below.refl w.heap.size w)
  go_enter Try.func77, Try.ntmps77
  clear HB
  go_wp2_with fail
  go_loopw [8] (fun ix wr => ∃ k : Nat, k ≤ L.length ∧ ix = .int .i64 k ∧ (L.take k).all (fun p => decide (p < (np : Int))) = true ∧ Below w.heap.size w wr) (fun ix _ => L.length - (intOf ix).toNat)
  case atStart => exact ⟨0, by omega, rfl, rfl, Below.refl _ _⟩
  case round =>
    obtain ⟨k, hk, rfl, hall, hb⟩ := hrel
    have HALL := Lib.hid hall
    have HB := Lib.hid hb
    have HG2 := Lib.hid (HG.out.keep hb)
    have hv2 := SlR.keep HV.out hb
    clear hall hb
    obtain ⟨wA, hwA⟩ : ∃ x, x = wr := ⟨_, rfl⟩
    subst hwA
    by_cases hlt : k < L.length
    · obtain ⟨b, o, cap', hve, _⟩ := SlR.pos hv2 (by decide) (by omega)
      injection hve with q1 q2 q3
      subst q1
      clear q2 q3
      have hcell := ints_at hv2 hlt
      have hst := List.take_succ_eq_append_getElem hlt
      obtain ⟨z, hz⟩ : ∃ z, L[k] = z := ⟨_, rfl⟩
      have hmem : z ∈ L := by rw [← hz]; exact List.getElem_mem hlt
      rw [hz] at hcell hst
      have HST := Lib.hid hst
      have HME := Lib.hid hmem
      clear hst hz hmem hv2
      obtain ⟨q, hq⟩ : ∃ q, decide (z ≥ (np : Int)) = q := ⟨_, rfl⟩
      have HC := Lib.hid (of1_any z px cx np pc nc cc fu off g wA HG2.out q hq)
      have HQ := Lib.hid hq
      clear hq
      go_wp2_with fail
      clear hcell
      refine HC.out.mono ?_
      rintro e w9 ⟨rfl, hb9⟩
      have HB9 := Lib.hid (HB.out.trans (hb9.mono HB.out.size))
      clear hb9 HC
      cases q
      · go_wp2_with fail
        refine ⟨⟨k + 1, by omega, by go_num, ?_, HB9.out⟩, by simp [intOf]; omega⟩
        rw [HST.out, List.all_append, HALL.out]
        have := of_decide_eq_false HQ.out
        simp; omega
      · go_wp2_with fail
        go_ret
        refine ⟨_, rfl, ?_, HB9.out⟩
        have hf : L.all (fun p => decide (p < (np : Int))) = false := by
          rw [Bool.eq_false_iff]
          intro h
          have h1 := List.all_eq_true.1 h z HME.out
          have h2 := of_decide_eq_true HQ.out
          simp at h1; omega
        rw [hf]
        simp
    · obtain rfl : k = L.length := by omega
      have ha := HALL.out
      rw [List.take_length] at ha
      have HA := Lib.hid ha
      clear ha hv2
      go_wp2_with fail
      go_ret
      refine ⟨_, rfl, ?_, HB.out⟩
      rw [HA.out]
      decide
set_option maxHeartbeats 4000000 in
set_option maxRecDepth 100000 in
theorem contF_any (L : List Int) (v : Value) (px cx : Option Addr) (np pc nc cc : Nat) (fu : Int) (off : Bool) (g : Nat) (w : World) (hv : Ints w v L) (hg : Blk w g 30 [.slice px np pc, .slice cx nc cc, .int .i64 fu, .bool off]) (q : Bool) (hq : (!L.all (fun p => decide (p < (np : Int)))) = q) :
    Calls Try.prog 66 #[v, .func (.func 67) #[] #[.pointer (some ⟨g, 0, none⟩)]] w fun e w' => e = .returned (.bool q) ∧ Below w.heap.size w w' := by
  have HC := Lib.hid (idxF_any L v px cx np pc nc cc fu off g w hv hg)
  obtain ⟨x, c, rfl, hc1, hc2⟩ := ints_shape hv
  clear hv hg hc1 hc2
  have HB := Lib.hid (Below.refl w.heap.size w)
  go_enter Try.func66, Try.ntmps66
  clear HB
  go_wp2_with fail
  refine HC.out.mono ?_
  rintro e w9 ⟨m, rfl, hm, hb9⟩
  rw [hq] at hm
  have HB9 := Lib.hid hb9
  have hm' : decide (0 ≤ m) = q := by rw [← hm]
  clear hb9 HC
  go_wp2_with fail
  go_ret
  exact ⟨by first | rfl | (rw [← hm]) , HB9.out⟩

set_option maxHeartbeats 4000000 in
set_option maxRecDepth 100000 in
theorem of_any' (d : Dev) (dv : Value) (r : Rt) (v : Value) (w : World) (hd : DevR w dv d) (hv : RtR w v r) (q : Bool) (hq : ofB d.pages.length r = q) :
    Calls Try.prog 41 #[dv, v] w fun e w' => e = .returned (.bool q) ∧ Below w.heap.size w w' := by
  obtain ⟨px, pc, cx, cc, rfl⟩ := hd.shape
  obtain ⟨sl, rfl, hs⟩ := hv.ex
  obtain ⟨x, c, rfl, hc1, hc2⟩ := ints_shape hs
  have HC := Lib.hid (fun W g h1 h2 => contF_any r.pages (.slice x r.pages.length c) px cx d.pages.length pc d.cache.length cc d.fuse d.off g W h1 h2 (!q) (by rw [← hq]; rfl))
  have HS := Lib.hid hs
  obtain ⟨s, st, L, by'⟩ := r
  unfold rtV
  dsimp only at HC HS ⊢
  clear hd hv hs hq hc1 hc2
  have HB := Lib.hid (Below.refl w.heap.size w)
  go_enter Try.func41, Try.ntmps41
  go_upto_region 1 with (fail)
  refine Agg.wp_at fun w1 hw1 => ?_
  have hb : Below w.heap.size w w1 := by rw [hw1.out]; repeat (first | exact Below.refl _ _ | refine Agg.bel_drew ?_ | refine Agg.bel_alloc ?_ _)
  replace HB := Lib.hid (HB.out.trans (hb.mono HB.out.size))
  replace HS := Lib.hid (HS.out.keep hb)
  clear hb
  have H2 : Hid (Blk w1 w.heap.size 30 [.slice px d.pages.length pc, .slice cx d.cache.length cc, .int .i64 d.fuse, .bool d.off]) := by show Blk _ _ _ _; rw [hw1.out]; exact (Blk.new w 30 #[.slice px d.pages.length pc, .slice cx d.cache.length cc, .int .i64 d.fuse, .bool d.off]).al _
  have H3 : Hid (Blk w1 (w.heap.size + 1) 26 [.int .i64 s, .int .u64 (st : Int), .slice x L.length c, .int .i64 by']) := by show Blk _ _ _ _; rw [hw1.out]; exact Blk.newAt (w.alloc _) 26 #[.int .i64 s, .int .u64 (st : Int), .slice x L.length c, .int .i64 by'] _ (by simp)
  clear hw1
  have hmf : ∀ (fn : Fn) (first cap : Array Value) (w : World), (Instr.makeFunc fn first cap).run Try.prog w = .ok (.func fn first cap) w := fun _ _ _ _ => rfl
  have c2 := H3.out.cell 2
  simp only [List.getElem?_cons_zero, List.getElem?_cons_succ] at c2
  go_wp2_with fail
  clear c2 hmf
  refine (HC.out w1 _ HS.out H2.out).mono ?_
  rintro e w2 ⟨rfl, hb⟩
  replace HB := Lib.hid (HB.out.trans (hb.mono HB.out.size))
  replace HS := Lib.hid (HS.out.keep hb)
  replace H2 := Lib.hid (H2.out.keep hb)
  replace H3 := Lib.hid (H3.out.keep hb)
  clear hb
  go_wp2_with fail
  go_ret
  exact ⟨by simp, HB.out⟩
end Go.Proofs.Ytjnnnnolikbjcaa
end
section
/-
  ROOTS: the block of a root.
-/
namespace Agg
open Go Go.RowKit
section
variable {n kk : Nat} {P : Program} {l rest : List Oper} {W : World} {l0 : List Value} {ds : List Deferred} {acc : List R} {o : Oper} {fin : List R → Prop}
/-- a struct of two fields, the second of which was made -/
theorem chBuildK {t : TypeId} {ts i0 i1 : Nat} {x0 : Operand} {v0 : Value} (j : Nat) {g g' : Value → World → Prop} (hst : Stable g') (F : Value → Value) (hr : ∀ u w w', g u w → (Instr.build t #[(i0, v0), (i1, u)]).run P w' = .ok (F u) w' ∧ g' (F u) w)
    (ho : o.op = .build t #[(i0, x0), (i1, .tmp ts)]) (hx0 : rd (l.take n) l0 kk acc o x0 = some v0) (hd : depL o j = true) (hj : look kk acc j = some (.op g)) (ht : (l[j]?).map (·.dst) = some (some ts)) (hw : wants kk acc o = some true) (hk : gOk l o = true)
    (h : ChainR n P l.toArray W ⟨l0.toArray, ds⟩ (kk + 1) ((.op g') :: acc) rest fin) : ChainR n P l.toArray W ⟨l0.toArray, ds⟩ kk acc (o :: rest) fin :=
  chPureG (by rw [ho]; rfl) hw hk hst (fun a w hh => by
    obtain ⟨v, hv, hg⟩ := hh.op j ts hd hj ht
    refine ⟨F v, (hr v w w hg).2, fun w' => ?_⟩
    have h1 := (hr v w w' hg).1
    simp [execOp, ho, hv, hh.rd hx0, h1]) h
/-- a call of what was made, and of a value -/
theorem chCallO {f : FuncId} {fn : Func} (hf : P.funcs[f]? = some fn) (hbody : fn.body.isNone = false) (hname : (fn.name == "runtime.NumGoroutine") = false) {x : Operand} {vx : Value} {t : Nat} {ts : Array TypeId} (v : Value) (j : Nat) {g : Value → World → Prop}
    (ho : o.op = .call { callee := .value (.func f), args := #[.tmp t, x], argTypes := ts }) (hx : rd (l.take n) l0 kk acc o x = some vx) (hd : depL o j = true) (hj : look kk acc j = some (.op g)) (ht : (l[j]?).map (·.dst) = some (some t)) (hw : wants kk acc o = some true) (hk : gOk l o = true)
    (hc : ∀ u w, Below W.heap.size W w → g u w → Calls P f #[u, vx] w fun e w' => e = .returned v ∧ Below w.heap.size w w')
    (h : ChainR n P l.toArray W ⟨l0.toArray, ds⟩ (kk + 1) ((.pure v) :: acc) rest fin) : ChainR n P l.toArray W ⟨l0.toArray, ds⟩ kk acc (o :: rest) fin :=
  chCallA (r := .pure v) (by rw [ho]; rfl) hw hk trivial hf hbody hname ho (fun a w hh => by
    obtain ⟨u, hu, hg⟩ := hh.op j t hd hj ht
    have e : (#[Operand.tmp t, x].map a.eval) = #[u, vx] := by simp [hu, hh.rd hx]
    rw [e]
    refine (hc u w hh.below hg).mono ?_
    rintro e w' ⟨rfl, hb⟩
    exact ⟨v, rfl, rfl, hb⟩) h
end
end Agg
namespace Go.Proofs.Ytjnnnnolikbjcaa
open Go.ChangeShapes Go.WideShapes Go.ChangeAt Go.RowKit Agg Pg Dv
attribute [local go_sem] Oper.semAt_some

theorem bytes_stable (l : List UInt8) : Stable (fun v w => Bytes w v l) := fun _ _ _ h hb => SlR.keep h hb
/-- a page of a root, as a value -/
def PgV (D : List UInt8) (v : Value) (w : World) : Prop := ∃ u, v = .agg #[.int .i64 1, u] ∧ Bytes w u D
theorem PgV.stable (D : List UInt8) : Stable (PgV D) := fun _ _ _ ⟨u, h1, h2⟩ hb => ⟨u, h1, SlR.keep h2 hb⟩
theorem build_pg {u : Value} {w w' : World} {D : List UInt8} (h : Bytes w u D) : (Instr.build 92 #[(0, .int .i64 1), (1, u)]).run Try.prog w' = .ok (.agg #[.int .i64 1, u]) w' := by
  obtain ⟨x, c, rfl, _, _⟩ := SlR.shape h
  cases x <;> kernel_rfl

set_option maxHeartbeats 4000000 in
set_option maxRecDepth 100000 in
theorem block_any (r : Rt) (v : Value) (w : World) (hv : RtR w v r) (hr : RightR r) :
    Calls Try.prog 42 #[v] w fun e w' => e = .returned (.agg (blkC (blkR r)).toArray) ∧ Below w.heap.size w w' := by
  obtain ⟨sl, rfl, hs⟩ := hv.ex
  have HD := Lib.hid (fun W h => data_any r (rtV sl r) W h hr)
  have HL := Lib.hid (fun W u h => layOk_any 1 (dataR r) r.stamp u W h ⟨by decide, by decide, data_120 hr⟩ hr.stamp)
  have hb : BOk (layB 1 (dataR r) r.stamp) := blkR_bok hr
  have h132 := bok_cells hb
  have HLN : Hid ((dataR r).length ≤ maxLen) := Lib.hid (by have := data_120 hr; unfold maxLen; omega)
  have HV := Lib.hid hv
  unfold blkR
  obtain ⟨bl, hbl⟩ : ∃ b, layB 1 (dataR r) r.stamp = b := ⟨_, rfl⟩
  rw [hbl] at HL h132 ⊢
  have H132 := Lib.hid h132
  clear hb h132 hbl hs hv
  obtain ⟨D, hD⟩ : ∃ D, dataR r = D := ⟨_, rfl⟩
  rw [hD] at HD HL HLN
  clear hD
  obtain ⟨s, st, L, by'⟩ := r
  unfold rtV at HV HD ⊢
  dsimp only at HV HD HL ⊢
  have HB := Lib.hid (Below.refl w.heap.size w)
  go_enter Try.func42, Try.ntmps42
  go_upto_region 1 with (refine Agg.allocRow 38 (blkC zeroB).toArray rfl rfl (by kernel_rfl) ?_; simp only [Act.put, List.setIfInBounds_toArray, List.set_cons_succ, List.set_cons_zero])
  refine Agg.wp_at fun w1 hw1 => ?_
  have hb : Below w.heap.size w w1 := by rw [hw1.out]; repeat (first | exact Below.refl _ _ | refine Agg.bel_drew ?_ | refine Agg.bel_alloc ?_ _)
  replace HB := Lib.hid (HB.out.trans (hb.mono HB.out.size))
  replace HV := Lib.hid (HV.out.keep hb)
  clear hb
  have H1 : Hid (Blk w1 w.heap.size 26 [.int .i64 s, .int .u64 (st : Int), sl, .int .i64 by']) := by show Blk _ _ _ _; rw [hw1.out]; exact (Blk.new w 26 #[.int .i64 s, .int .u64 (st : Int), sl, .int .i64 by']).al _
  have H2 : Hid (Blk w1 (w.heap.size + 1) 38 (blkC zeroB)) := by show Blk _ _ _ _; rw [hw1.out]; exact Blk.newAt (w.alloc _) 38 (blkC zeroB).toArray _ (by simp)
  clear hw1
  simp only [World.size_alloc]
  refine Agg.chainR 10 (by kernel_rfl) (by kernel_rfl) ?_
  simp only [List.take_succ_cons, List.take_zero, List.drop_succ_cons, List.drop_zero]
  refine Agg.chRowB 4 H1.out rfl (by decide +kernel) rfl rfl rfl rfl ?_
  refine Agg.chCallG Try.func56 rfl (by kernel_rfl) (fun v W => Bytes W v D) (bytes_stable D) rfl rfl rfl rfl (fun W hb => Calls.mono (HD.out W (RtR.keep HV.out hb)) (fun e w2 h => by obtain ⟨u, rfl, h1, h2⟩ := h; exact ⟨u, rfl, RowN.bytes h1 HLN.out, h2⟩)) ?_
  refine Agg.chBuildK 1 (PgV.stable D) (fun u => .agg #[.int .i64 1, u]) (fun u w w' h => ⟨build_pg h, ⟨u, rfl, h⟩⟩) rfl rfl rfl rfl rfl rfl rfl ?_
  refine Agg.chFA fo_Rt_1 rfl rfl rfl rfl ?_
  refine Agg.chLoadB H1.out (by decide +kernel) rfl rfl (by rfl) rfl rfl ?_
  refine Agg.chCallO Try.func68 rfl rfl (.tuple #[.agg (blkC bl).toArray, .int .i64 0]) 2 rfl rfl rfl rfl rfl rfl rfl (fun u W hb h => by obtain ⟨x, rfl, hx⟩ := h; exact HL.out W x hx) ?_
  refine Agg.chMove rfl rfl rfl rfl ?_
  refine Agg.chExtract rfl rfl rfl rfl rfl ?_
  refine Agg.chExtract rfl rfl rfl rfl rfl ?_
  refine Agg.chAlloc (blkC zeroB).toArray rfl (by kernel_rfl) rfl rfl ?_
  refine Agg.chEnd ?_
  intro vs w2 hb hf
  simp only [List.reverse, List.reverseAux, Agg.Facts] at hf
  obtain ⟨_, _, ⟨g3, hv3, hg3, hb3⟩, _⟩ := hf
  simp only [List.reverse, List.reverseAux, Agg.fill, List.set_cons_succ, List.set_cons_zero, hv3]
  have h132 := H132.out
  have hsz := HB.out.size
  have hbA := HB.out.trans (hb.mono HB.out.size)
  have h2 := H2.out.keep hb
  have h2l := H2.out.lt
  refine Agg.tStore 132 (cs := blkC bl) hb3 rfl rfl rfl rfl rfl (by decide +kernel) zero132 h132 (blkC_one _) (fun w60 hb60 hg60 => ?_)
  refine Agg.tAssign rfl rfl rfl ?_
  simp only [Agg.ev, List.getD_cons_zero, List.getD_cons_succ, List.set_cons_succ, List.set_cons_zero]
  refine Agg.wpNil ?_
  have HB6 := Lib.hid (hbA.trans (grown_below hg60 hbA.size (fun j hj => by cases hj; omega)))
  have H26 := Lib.hid (h2.far' hg60 (by omega))
  have H36 := Lib.hid hb60
  clear hb hb3 hv3 hb60 hg60 hbA h2 HB H1 H2 HV HD HL
  have HB := HB6
  have hsz6 := HB.out.size
  have h36 := H36.out
  have h26 := H26.out
  go_wp2_with (first
    | (refine Agg.gLoadB 132 h36 h132 rfl rfl rfl (by decide +kernel) ?_; simp only [Act.put, List.setIfInBounds_toArray, List.set_cons_succ, List.set_cons_zero])
    | (refine Agg.gStoreB 132 (blkC bl) h26 rfl rfl rfl rfl rfl (by decide +kernel) zero132 h132 (blkC_one _) (fun w14 hb14 hg14 => ?_)))
  refine bodyPost_ret (results_row1 (m := 132) rfl hb14 rfl (by decide +kernel) h132) rfl ⟨rfl, ?_⟩
  exact HB.out.trans (grown_below hg14 hsz6 (fun j hj => by cases hj; omega))
end Go.Proofs.Ytjnnnnolikbjcaa
end
