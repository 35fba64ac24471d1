/-
  DEVICES: what an op does, by the document.
-/
import Derived.Test.YtapdigcpaebjiaaDvX
import Derived.Test.YtapdigcpaebjiaaChain2
import Derived.Test.YtapdigcpaebjiaaOpV
section
namespace Go.Proofs.Ytapdigcpaebjiaa
open Go.ChangeShapes Go.WideShapes Go.ChangeAt Go.RowKit Agg Pg Dv

set_option maxHeartbeats 4000000 in
set_option maxRecDepth 100000 in
theorem wants_any (o : OpD) (mv : Value) (hf : o.fl.Ok) (P : List (List Sec)) (l : List (Int × List Sec)) (z : Int) (q : Bool) (x y : Option Addr) (cap cm : Nat) (w : World)
    (hd1 : P.length ≤ 1000000) (hd2 : l.length ≤ 1000000) (hp : Pgs w (.slice x P.length cap) P) (hv : Wrs w (.slice y l.length cm) l) (hP : ∀ b ∈ P, BOk b) (hC : ∀ x ∈ l, BOk x.2) (hm : Ints w mv o.ms) :
    Calls Try.prog 12 #[.agg (opC o mv).toArray, .agg #[.slice x P.length cap, .slice y l.length cm, .int .i64 z, .bool q]] w fun e w' => ∃ v, e = .returned (.tuple #[v, .int .i64 (doesP o ⟨P, l, z, q⟩).1]) ∧ DevR w' v (doesP o ⟨P, l, z, q⟩).2 ∧ Below w.heap.size w w' := by
  have HP := Lib.hid hp
  have HV := Lib.hid hv
  have HM := Lib.hid hm
  have HPB := Lib.hid hP
  have HCB := Lib.hid hC
  have HD1 := Lib.hid hd1
  have HD2 := Lib.hid hd2
  have HF := Lib.hid hf
  have HOK := Lib.hid (doesP_ok (o := o) (d := ⟨P, l, z, q⟩) hf ⟨hP, hC⟩)
  obtain ⟨g, hg⟩ : ∃ g, doesP o ⟨P, l, z, q⟩ = g := ⟨_, rfl⟩
  rw [hg] at HOK ⊢
  have HG := Lib.hid hg
  clear hp hv hP hC hd1 hd2 hm hf hg
  have HB := Lib.hid (Below.refl w.heap.size w)
  go_enter Try.func12, Try.ntmps12
  go_upto_region 1 with (fail)
  refine Agg.wp_at fun w1 hw1 => ?_
  have hb : Below w.heap.size w w1 := by rw [hw1.out]; repeat (first | exact Below.refl _ _ | refine Agg.bel_drew ?_ | refine Agg.bel_alloc ?_ _)
  replace HB := Lib.hid (HB.out.trans (hb.mono HB.out.size))
  replace HP := Lib.hid (HP.out.keep hb)
  replace HV := Lib.hid (HV.out.keep hb)
  replace HM := Lib.hid (HM.out.keep hb)
  clear hb
  have H1 : Hid (Blk w1 w.heap.size 31 (opC o mv)) := by show Blk _ _ _ _; rw [hw1.out]; exact ((Blk.new w 31 (opC o mv).toArray).al _).al _
  have H3 : Hid (Blk w1 (w.heap.size + 1) 36 [.slice x P.length cap, .slice y l.length cm, .int .i64 z, .bool q]) := by show Blk _ _ _ _; rw [hw1.out]; exact (Blk.newAt (w.alloc _) 36 #[.slice x P.length cap, .slice y l.length cm, .int .i64 z, .bool q] _ (by simp)).al _
  have H4 : Hid (Blk w1 (w.heap.size + 2) 36 [.slice none 0 0, .slice none 0 0, .int .i64 0, .bool false]) := by show Blk _ _ _ _; rw [hw1.out]; exact Blk.newAt ((w.alloc _).alloc _) 36 #[.slice none 0 0, .slice none 0 0, .int .i64 0, .bool false] _ (by simp)
  clear hw1
  have hk0 := H1.out.cell 0
  rw [opC_kind] at hk0
  have hkn := kindN_lt o.kind
  have HFL : Hid (∀ i v, (flC o.fl)[i]? = some v → w1.cell? ⟨w.heap.size, 0 + 1 + i, none⟩ = some v) := Lib.hid (fun i v hi => by
    rw [H1.out.cell, Nat.zero_add, opC_fl HF.out mv i (by have := (List.getElem?_eq_some_iff.1 hi).1; rw [flC_length HF.out] at this; exact this)]; exact hi)
  have HPG : Hid (w1.cell? ⟨w.heap.size, 0 + 1 + 0, none⟩ = some (.int .i64 o.fl.page)) := Lib.hid (by rw [H1.out.cell]; exact opC_page mv)
  go_upto_region 2 with (fail)
  rw [kindN_eq]
  obtain ⟨kn, hkn2⟩ : ∃ k, kindN o.kind = k := ⟨_, rfl⟩
  rw [hkn2] at hkn ⊢
  have hg := HG.out
  rw [doesP, hkn2] at hg
  clear hkn2 hk0 HG
  rcases (by omega : kn = 0 ∨ kn = 1 ∨ kn = 2 ∨ kn = 3 ∨ kn = 4) with rfl | rfl | rfl | rfl | rfl
  · rw [if_pos (by decide)] at hg
    go_upto_region 4 with (fail)
    refine Agg.chainR 10 (by kernel_rfl) (by kernel_rfl) ?_
    simp only [List.take_succ_cons, List.take_zero, List.drop_succ_cons, List.drop_zero]
    refine Agg.chRowB 4 H3.out rfl (by decide +kernel) rfl rfl rfl rfl ?_
    refine Agg.chFA fo_fo_Op_1 rfl rfl rfl rfl ?_
    refine Agg.chFA fo_fo_Fl_0 rfl rfl rfl rfl ?_
    refine Agg.chLoad rfl rfl rfl rfl (by decide +kernel) HPG.out ?_
    refine Agg.chFA fo_fo_Op_1 rfl rfl rfl rfl ?_
    refine Agg.chRowAt 6 (flC o.fl) (flC_length HF.out) (by decide +kernel) rfl rfl rfl rfl HFL.out ?_
    refine Agg.chCall Try.func18 rfl (by kernel_rfl) rfl rfl rfl rfl (fun W hb => block_any o.fl HF.out W) ?_
    refine Agg.chCallG Try.func27 rfl (by kernel_rfl) (DevRT g.1 g.2) (DevRT.stable _ _) rfl rfl rfl rfl (fun W hb => Calls.mono (rPut_any P l z q x y cap cm o.fl.page (fillB o.fl) (fillB_bok HF.out) W HD1.out HD2.out (HP.out.keep hb) (HV.out.keep hb) HCB.out) (by rw [hg]; rintro e w2 ⟨v, rfl, h, h2⟩; exact ⟨_, rfl, ⟨v, rfl, h⟩, h2⟩)) ?_
    refine Agg.chExtractO 7 (DevRV.stable _) DevRT.fst rfl rfl rfl rfl rfl rfl ?_
    refine Agg.chExtractO 7 (IntV.stable _) DevRT.snd rfl rfl rfl rfl rfl rfl ?_
    refine Agg.chEnd ?_
    intro vs w2 hb hf
    simp only [List.reverse, List.reverseAux, Agg.Facts] at hf
    obtain ⟨_, ⟨px, cx, pc, cc, hv8, hp8, hc8⟩, hv9, _⟩ := hf
    simp only [List.reverse, List.reverseAux, Agg.fill, List.set_cons_succ, List.set_cons_zero, hv8, hv9]
    have h4 := H4.out.keep hb
    have hbA := HB.out.trans (hb.mono HB.out.size)
    have l4 := H4.out.lt
    refine Agg.tStore 4 (cs := [.slice px g.2.pages.length pc, .slice cx g.2.cache.length cc, .int .i64 g.2.fuse, .bool g.2.off]) h4 rfl rfl rfl rfl rfl (by decide +kernel) rfl rfl (by simp [Value.oneCell']) (fun w16 hb16 hg16 => ?_)
    refine Agg.tAssign rfl rfl rfl ?_
    simp only [Agg.ev, List.getD_cons_zero, List.getD_cons_succ, List.set_cons_succ, List.set_cons_zero]
    refine Agg.wpNil ?_
    have hbC := hbA.trans (grown_below hg16 hbA.size (fun j hj => by cases hj; omega))
    have hdr := DevR.far ⟨px, cx, pc, cc, rfl, hp8, hc8⟩ HOK.out h4 hg16
    go_wp2_with fail
    refine bodyPost_ret (results_row2 (m := 4) rfl hb16 rfl (by decide +kernel) rfl) rfl ⟨_, rfl, hdr, hbC⟩
  · rw [if_pos (by decide)] at hg
    go_upto_region 4 with (fail)
    refine Agg.chainR 10 (by kernel_rfl) (by kernel_rfl) ?_
    simp only [List.take_succ_cons, List.take_zero, List.drop_succ_cons, List.drop_zero]
    refine Agg.chRowB 4 H3.out rfl (by decide +kernel) rfl rfl rfl rfl ?_
    refine Agg.chFA fo_fo_Op_1 rfl rfl rfl rfl ?_
    refine Agg.chFA fo_fo_Fl_0 rfl rfl rfl rfl ?_
    refine Agg.chLoad rfl rfl rfl rfl (by decide +kernel) HPG.out ?_
    refine Agg.chFA fo_fo_Op_1 rfl rfl rfl rfl ?_
    refine Agg.chRowAt 6 (flC o.fl) (flC_length HF.out) (by decide +kernel) rfl rfl rfl rfl HFL.out ?_
    refine Agg.chCall Try.func18 rfl (by kernel_rfl) rfl rfl rfl rfl (fun W hb => block_any o.fl HF.out W) ?_
    refine Agg.chCallG Try.func27 rfl (by kernel_rfl) (DevRT g.1 g.2) (DevRT.stable _ _) rfl rfl rfl rfl (fun W hb => Calls.mono (rPut_any P l z q x y cap cm o.fl.page (fillB o.fl) (fillB_bok HF.out) W HD1.out HD2.out (HP.out.keep hb) (HV.out.keep hb) HCB.out) (by rw [hg]; rintro e w2 ⟨v, rfl, h, h2⟩; exact ⟨_, rfl, ⟨v, rfl, h⟩, h2⟩)) ?_
    refine Agg.chExtractO 7 (DevRV.stable _) DevRT.fst rfl rfl rfl rfl rfl rfl ?_
    refine Agg.chExtractO 7 (IntV.stable _) DevRT.snd rfl rfl rfl rfl rfl rfl ?_
    refine Agg.chEnd ?_
    intro vs w3 hb hf
    simp only [List.reverse, List.reverseAux, Agg.Facts] at hf
    obtain ⟨_, ⟨px, cx, pc, cc, hv8, hp8, hc8⟩, hv9, _⟩ := hf
    simp only [List.reverse, List.reverseAux, Agg.fill, List.set_cons_succ, List.set_cons_zero, hv8, hv9]
    have h4 := H4.out.keep hb
    have hbA := HB.out.trans (hb.mono HB.out.size)
    have l4 := H4.out.lt
    refine Agg.tStore 4 (cs := [.slice px g.2.pages.length pc, .slice cx g.2.cache.length cc, .int .i64 g.2.fuse, .bool g.2.off]) h4 rfl rfl rfl rfl rfl (by decide +kernel) rfl rfl (by simp [Value.oneCell']) (fun w16 hb16 hg16 => ?_)
    refine Agg.tAssign rfl rfl rfl ?_
    simp only [Agg.ev, List.getD_cons_zero, List.getD_cons_succ, List.set_cons_succ, List.set_cons_zero]
    refine Agg.wpNil ?_
    have hbC := hbA.trans (grown_below hg16 hbA.size (fun j hj => by cases hj; omega))
    have hdr := DevR.far ⟨px, cx, pc, cc, rfl, hp8, hc8⟩ HOK.out h4 hg16
    go_wp2_with fail
    refine bodyPost_ret (results_row2 (m := 4) rfl hb16 rfl (by decide +kernel) rfl) rfl ⟨_, rfl, hdr, hbC⟩
  · rw [if_neg (by decide), if_pos rfl] at hg
    have l4 := H4.out.lt
    have hsz := HB.out.size
    have xH3_0 := H3.out.cell 0
    have xH3_1 := H3.out.cell 1
    have xH3_2 := H3.out.cell 2
    have xH3_3 := H3.out.cell 3
    have lH3 := H3.out.lt
    simp only [List.getElem?_cons_zero, List.getElem?_cons_succ] at xH3_0 xH3_1 xH3_2 xH3_3
    go_wp2_with fail
    refine (rFlush_any P l z q x y cap cm w1 HD1.out HD2.out HP.out HV.out HPB.out HCB.out).mono ?_
    rw [hg]
    rintro e w9 ⟨v, rfl, hdv, hb⟩
    obtain ⟨px, cx, pc, cc, rfl, hp8, hc8⟩ := hdv
    have h4 := H4.out.keep hb
    have hbA := HB.out.trans (hb.mono HB.out.size)
    go_wp2_with (refine Agg.gStoreB 4 [.slice px g.2.pages.length pc, .slice cx g.2.cache.length cc, .int .i64 g.2.fuse, .bool g.2.off] h4 rfl rfl rfl rfl rfl (by decide +kernel) rfl rfl (by simp [Value.oneCell']) (fun w16 hb16 hg16 => ?_))
    have hbC := hbA.trans (grown_below hg16 hbA.size (fun j hj => by cases hj; omega))
    have hdr := DevR.far ⟨px, cx, pc, cc, rfl, hp8, hc8⟩ HOK.out h4 hg16
    refine bodyPost_ret (results_row2 (m := 4) rfl hb16 rfl (by decide +kernel) rfl) rfl ⟨_, rfl, hdr, hbC⟩
  · rw [if_neg (by decide), if_neg (by decide), if_pos rfl] at hg
    have hn7 := H1.out.cell 7
    rw [opC_n HF.out] at hn7
    have l4 := H4.out.lt
    have hsz := HB.out.size
    have xH3_0 := H3.out.cell 0
    have xH3_1 := H3.out.cell 1
    have xH3_2 := H3.out.cell 2
    have xH3_3 := H3.out.cell 3
    have lH3 := H3.out.lt
    simp only [List.getElem?_cons_zero, List.getElem?_cons_succ] at xH3_0 xH3_1 xH3_2 xH3_3
    go_wp2_with fail
    refine (rLight_any P l z q x y cap cm o.n w1 HD1.out HP.out HV.out HCB.out).mono ?_
    rw [hg]
    rintro e w9 ⟨v, rfl, hdv, hb⟩
    obtain ⟨px, cx, pc, cc, rfl, hp8, hc8⟩ := hdv
    have h4 := H4.out.keep hb
    have hbA := HB.out.trans (hb.mono HB.out.size)
    go_wp2_with (refine Agg.gStoreB 4 [.slice px g.2.pages.length pc, .slice cx g.2.cache.length cc, .int .i64 g.2.fuse, .bool g.2.off] h4 rfl rfl rfl rfl rfl (by decide +kernel) rfl rfl (by simp [Value.oneCell']) (fun w16 hb16 hg16 => ?_))
    have hbC := hbA.trans (grown_below hg16 hbA.size (fun j hj => by cases hj; omega))
    have hdr := DevR.far ⟨px, cx, pc, cc, rfl, hp8, hc8⟩ HOK.out h4 hg16
    refine bodyPost_ret (results_row2 (m := 4) rfl hb16 rfl (by decide +kernel) rfl) rfl ⟨_, rfl, hdr, hbC⟩
  · rw [if_neg (by decide), if_neg (by decide), if_neg (by decide)] at hg
    go_upto_region 9 with (fail)
    refine Agg.chainR 6 (by kernel_rfl) (by kernel_rfl) ?_
    simp only [List.take_succ_cons, List.take_zero, List.drop_succ_cons, List.drop_zero]
    refine Agg.chRowB 4 H3.out rfl (by decide +kernel) rfl rfl rfl rfl ?_
    refine Agg.chRowB 9 H1.out (opC_length HF.out mv) (by decide +kernel) rfl rfl rfl rfl ?_
    refine Agg.chCallG Try.func26 rfl (by kernel_rfl) (IntsV (o.ms.take 60)) (IntsV.stable _) rfl rfl rfl rfl (fun W hb => masks_any o mv HF.out W (HM.out.keep hb)) ?_
    refine Agg.chCall_po Try.func30 rfl (by kernel_rfl) (.op (DevRT g.1 g.2)) (DevRT.stable _ _) 2 rfl rfl rfl rfl rfl rfl rfl (fun u W hb hu => Calls.mono (rCrash_any P l z q x y cap cm (o.ms.take 60) u W HD1.out HD2.out (by rw [List.length_take]; omega) (HP.out.keep hb) (HV.out.keep hb) HPB.out HCB.out hu) (by rw [hg]; rintro e w2 ⟨v, rfl, h, h2⟩; exact ⟨_, rfl, ⟨v, rfl, h⟩, h2⟩)) ?_
    refine Agg.chExtractO 3 (DevRV.stable _) DevRT.fst rfl rfl rfl rfl rfl rfl ?_
    refine Agg.chExtractO 3 (IntV.stable _) DevRT.snd rfl rfl rfl rfl rfl rfl ?_
    refine Agg.chEnd ?_
    intro vs w4 hb hf
    simp only [List.reverse, List.reverseAux, Agg.Facts] at hf
    obtain ⟨_, _, ⟨px, cx, pc, cc, hv8, hp8, hc8⟩, hv9, _⟩ := hf
    simp only [List.reverse, List.reverseAux, Agg.fill, List.set_cons_succ, List.set_cons_zero, hv8, hv9]
    have h4 := H4.out.keep hb
    have hbA := HB.out.trans (hb.mono HB.out.size)
    have l4 := H4.out.lt
    refine Agg.tStore 4 (cs := [.slice px g.2.pages.length pc, .slice cx g.2.cache.length cc, .int .i64 g.2.fuse, .bool g.2.off]) h4 rfl rfl rfl rfl rfl (by decide +kernel) rfl rfl (by simp [Value.oneCell']) (fun w16 hb16 hg16 => ?_)
    refine Agg.tAssign rfl rfl rfl ?_
    simp only [Agg.ev, List.getD_cons_zero, List.getD_cons_succ, List.set_cons_succ, List.set_cons_zero]
    refine Agg.wpNil ?_
    have hbC := hbA.trans (grown_below hg16 hbA.size (fun j hj => by cases hj; omega))
    have hdr := DevR.far ⟨px, cx, pc, cc, rfl, hp8, hc8⟩ HOK.out h4 hg16
    go_wp2_with fail
    refine bodyPost_ret (results_row2 (m := 4) rfl hb16 rfl (by decide +kernel) rfl) rfl ⟨_, rfl, hdr, hbC⟩
end Go.Proofs.Ytapdigcpaebjiaa
end
section
/-
  MAKE, and a struct built of what was made, in a region that draws its order. Over any program.
-/
namespace Agg
open Go Go.RowKit
section
variable {n kk : Nat} {P : Program} {l rest : List Oper} {W : World} {l0 : List Value} {ds : List Deferred} {acc : List R} {o : Oper} {fin : List R → Prop}
/-- make([]T, n) -/
theorem chMake {t e : TypeId} {size bytes : Nat} {z : Value} (T : TI P t e size bytes z) {x y : Operand} {kl kc : IntKind} (c : Nat) {li ci : Int} (hl : li = (c : Int)) (hc : ci = (c : Int)) (hb : c * bytes ≤ 140737488355328) (h63 : c ≤ maxLen) (ho : o.op = .makeSlice t x y)
    (hx : rd (l.take n) l0 kk acc o x = some (.int kl li)) (hy : rd (l.take n) l0 kk acc o y = some (.int kc ci)) (hw : wants kk acc o = some true) (hk : gOk l o = true)
    (h : ChainR n P l.toArray W ⟨l0.toArray, ds⟩ (kk + 1) ((.op (NewSl W.heap.size e c (madeCells z.cells (c * size)).toList)) :: acc) rest fin) : ChainR n P l.toArray W ⟨l0.toArray, ds⟩ kk acc (o :: rest) fin :=
  chRun (r := .op (NewSl W.heap.size e c (madeCells z.cells (c * size)).toList)) (by rw [ho]; rfl) hw hk (NewSl.stable _ _ _ _) (fun a w hh => by
    obtain ⟨i, hi, hz, hs, hbt⟩ := T.info
    subst hl; subst hc
    have h63' : (c : Int) ≤ 9223372036854775807 := by unfold maxLen at h63; omega
    have hb' : (i.bytes : Int) * (c : Int) ≤ 281474976710656 := by
      rw [hbt, ← Int.natCast_mul, Nat.mul_comm]; omega
    have hr := run_make (P := P) w t e i z T.ht hi hz kl kc c c (by omega) (by omega) hb' h63'
    simp only [Int.toNat_natCast, hs] at hr
    refine ⟨.slice (some ⟨w.heap.size, 0, none⟩) c c, _, ?_, ⟨_, rfl, hh.below.size, Blk.new w e _⟩, (Below.refl _ _).alloc (Nat.le_refl _) _⟩
    simp only [execOp, ho, hh.rd hx, hh.rd hy, Sem.run_bind, hr, Result.andThen_ok, Sem.run_pure]) h
/-- a struct of three fields, the first of which was made -/
theorem chBuildO3 {t : TypeId} {ts i0 i1 i2 : Nat} {x1 x2 : Operand} {v1 v2 : Value} (j : Nat) {g g' : Value → World → Prop} (hst : Stable g') (F : Value → Value) (hr : ∀ u w w', g u w → (Instr.build t #[(i0, u), (i1, v1), (i2, v2)]).run P w' = .ok (F u) w' ∧ g' (F u) w)
    (ho : o.op = .build t #[(i0, .tmp ts), (i1, x1), (i2, x2)]) (hx1 : rd (l.take n) l0 kk acc o x1 = some v1) (hx2 : rd (l.take n) l0 kk acc o x2 = some v2) (hd : depL o j = true) (hj : look kk acc j = some (.op g)) (ht : (l[j]?).map (·.dst) = some (some ts)) (hw : wants kk acc o = some true) (hk : gOk l o = true)
    (h : ChainR n P l.toArray W ⟨l0.toArray, ds⟩ (kk + 1) ((.op g') :: acc) rest fin) : ChainR n P l.toArray W ⟨l0.toArray, ds⟩ kk acc (o :: rest) fin :=
  chPureG (by rw [ho]; rfl) hw hk hst (fun a w hh => by
    obtain ⟨v, hv, hg⟩ := hh.op j ts hd hj ht
    refine ⟨F v, (hr v w w hg).2, fun w' => ?_⟩
    have h1 := (hr v w w' hg).1
    simp [execOp, ho, hv, hh.rd hx1, hh.rd hx2, h1]) h
end
end Agg
end
