/-
  THE WALKS OF LAYER 8 (pmc): rows compared.
-/
import Derived.Test.YtchpkgneloiidaaPm7
import Derived.Test.YtchpkgneloiidaaGood2
section
namespace Go.Proofs.Ytchpkgneloiidaa
open Go.ChangeShapes Go.WideShapes Go.ChangeAt Go.RowKit Agg Pg Pm

def ksBd : List (Option IntKind) := [some .i64, some .i64, some .i64]
theorem flatBd : Flat Try.prog 3 36 ksBd := ⟨by kernel_rfl, by kernel_rfl, by kernel_rfl, by kernel_rfl, by decide, by kernel_rfl⟩
theorem wf_i64 {z : Int} (h : I64 z) : (Lit.int .i64 z).wf = true := by
  unfold I64 at h
  simp [Lit.wf, IntKind.min, IntKind.max, IntKind.signed, IntKind.bits]; omega
theorem fits_bd (r : Bd) (h : Rw r) : Agg.Fits ksBd (bdC r) := ⟨⟨_, rfl, wf_i64 h.1⟩, ⟨_, rfl, wf_i64 h.2.1⟩, ⟨_, rfl, wf_i64 h.2.2⟩, trivial⟩
theorem bdC_inj {a b : Bd} (h : bdC a = bdC b) : a = b := by
  obtain ⟨a1, a2, a3⟩ := a
  obtain ⟨b1, b2, b3⟩ := b
  simp only [bdC, List.cons.injEq, Value.int.injEq, true_and, and_true] at h
  obtain ⟨rfl, rfl, rfl⟩ := h; rfl
theorem bd_neq (a b : Bd) (ha : Rw a) (hb : Rw b) (r : Bool) (hr : decide (a = b) = r) (w : World) : (binOp .neq 36 (.agg (bdC a).toArray) (.agg (bdC b).toArray)).run Try.prog w = .ok (.bool (!r)) w :=
  flatBd.neq (fits_bd a ha) (fits_bd b hb) r (by rw [← hr, decide_eq_true_eq]; exact ⟨fun e => by rw [e], fun e => bdC_inj e⟩) w
theorem int_neq (a b : Int) (_ : I64 a) (_ : I64 b) (r : Bool) (hr : decide (a = b) = r) : (a != b) = !r := by
  subst hr
  by_cases h : a = b <;> simp [h]
def tC (l : List Int) : List Value := l.map fun d => Value.int .i64 d
abbrev Tms (w : World) (v : Value) (l : List Int) : Prop := SlR w v 1 l.length (tC l)
theorem nC_tC (l : List Nat) : nC l = tC (l.map fun n : Nat => (n : Int)) := by unfold nC tC; rw [List.map_map]; rfl
def tEn (z : Int) : List Value := [.int .i64 z]
abbrev TmsF (w : World) (v : Value) (l : List Int) : Prop := SlR w v 1 l.length (l.flatMap tEn)
theorem tms_flat (l : List Int) : l.flatMap tEn = tC l := by
  unfold tC
  induction l with
  | nil => rfl
  | cons a l ih => rw [List.flatMap_cons, ih]; rfl
set_option maxHeartbeats 2000000 in
set_option maxRecDepth 100000 in
theorem equalBd_any (P Q : List Bd) (u v : Value) (w : World) (hu : Bds w u P) (hv : Bds w v Q) (hP : ∀ b ∈ P, Rw b) (hQ : ∀ b ∈ Q, Rw b) (r : Bool) (hr : decide (P = Q) = r) :
    Calls Try.prog 16 #[u, v] w fun e w' => e = .returned (.bool r) ∧ Below w.heap.size w w' := by
  obtain ⟨x, cap, rfl, hc1, hc2⟩ := SlR.shape hu
  obtain ⟨y, dap, rfl, hd1, hd2⟩ := SlR.shape hv
  unfold maxLen at hc2 hd2
  have HU := Lib.hid hu
  have HV := Lib.hid hv
  have HP := Lib.hid hP
  have HQ := Lib.hid hQ
  have HR := Lib.hid hr
  have HCP : Hid (∀ b ∈ P, (bdC b).length = 3) := Lib.hid (fun b hb => rfl)
  have HCQ : Hid (∀ b ∈ Q, (bdC b).length = 3) := Lib.hid (fun b hb => rfl)
  clear hu hv hP hQ hr
  have HB := Lib.hid (Below.refl w.heap.size w)
  go_enter Try.func16, Try.ntmps16
  by_cases hlen : P.length = Q.length
  · have HLE := Lib.hid hlen
    rw [← hlen] at HV hd1 ⊢
    clear hlen
    have hne : ((P.length : Int) != P.length) = false := by simp
    go_wp2_with fail
    clear hne
    go_loopw [13] (fun i wr => ∃ k : Nat, k ≤ P.length ∧ i = .int .i64 k ∧ Below w.heap.size w wr ∧ P.take k = Q.take k) (fun i _ => P.length - (intOf i).toNat)
    case atStart => exact ⟨0, by omega, rfl, Below.refl _ _, rfl⟩
    case round =>
      obtain ⟨k, hk, rfl, hb, htk⟩ := hrel
      replace HB := Lib.hid hb
      have HTK := Lib.hid htk
      have HU2 := Lib.hid (HU.out.keep HB.out)
      clear hb htk
      have hv2 : SlR wr (.slice y P.length dap) 3 Q.length (Q.flatMap bdC) := SlR.keep HV.out HB.out
      have HV2 := Lib.hid hv2
      clear hv2
      by_cases hlt : k < P.length
      · have hltq : k < Q.length := by have := HLE.out; omega
        obtain ⟨b, o, cap', hve, _, _, _, _⟩ := SlR.pos HU2.out (by decide) (by omega)
        simp only [Value.slice.injEq, true_and] at hve
        obtain ⟨rfl, rfl⟩ := hve
        obtain ⟨b2, o2, cap2, hve, _, _, _, _⟩ := SlR.pos HV2.out (by decide) (by omega)
        simp only [Value.slice.injEq, true_and] at hve
        obtain ⟨rfl, _, rfl⟩ := hve
        have hcu := Lib.hid (flat_at bdC 3 (by decide) HU2.out HCP.out hlt)
        have hcv := Lib.hid (flat_at bdC 3 (by decide) HV2.out HCQ.out hltq)
        obtain ⟨q, hq⟩ : ∃ q, decide (P[k] = Q[k]) = q := ⟨_, rfl⟩
        have HNQ := Lib.hid (bd_neq P[k] Q[k] (HP.out _ (List.getElem_mem hlt)) (HQ.out _ (List.getElem_mem hltq)) q hq)
        have HQ2 := Lib.hid hq
        have HST : Hid (q = true → P.take (k + 1) = Q.take (k + 1)) := by
          refine Lib.hid (fun e => ?_)
          rw [e, decide_eq_true_eq] at hq
          rw [List.take_succ_eq_append_getElem hlt, List.take_succ_eq_append_getElem hltq, HTK.out, hq]
        have HNE : Hid (q = false → P ≠ Q) := by
          refine Lib.hid (fun e he => ?_)
          rw [e, decide_eq_false_iff_not] at hq
          exact hq (by subst he; rfl)
        clear hq
        obtain ⟨A, hA⟩ : ∃ A, P[k] = A := ⟨_, rfl⟩
        obtain ⟨B, hB⟩ : ∃ B, Q[k] = B := ⟨_, rfl⟩
        rw [hA] at hcu
        rw [hB] at hcv
        rw [hA, hB] at HNQ HQ2
        clear hA hB
        go_upto_region 6 with (fail)
        refine Agg.chainR 9 (by kernel_rfl) (by kernel_rfl) ?_
        simp only [List.take_succ_cons, List.take_zero, List.drop_succ_cons, List.drop_zero]
        refine Agg.chMove rfl rfl rfl rfl ?_
        refine Agg.chMove rfl rfl rfl rfl ?_
        refine Agg.chIA tiBd (by omega) (by omega) rfl rfl rfl rfl rfl ?_
        refine Agg.chRowAt 3 (bdC A) rfl (by decide +kernel) rfl rfl rfl rfl hcu.out ?_
        refine Agg.chMove rfl rfl rfl rfl ?_
        refine Agg.chMove rfl rfl rfl rfl ?_
        refine Agg.chIA tiBd (by omega) (by omega) rfl rfl rfl rfl rfl ?_
        refine Agg.chRowAt 3 (bdC B) rfl (by decide +kernel) rfl rfl rfl rfl hcv.out ?_
        refine Agg.chBin (v := .bool (!q)) rfl rfl rfl rfl rfl (fun w => flatBd.gd .neq _ _ _ _ w) HNQ.out ?_
        refine Agg.chEnd ?_
        intro vs w1 hb _
        refine Agg.wpNil ?_
        simp only [List.reverse, List.reverseAux, Agg.fill, List.set_cons_succ, List.set_cons_zero]
        replace HB := Lib.hid (HB.out.trans (hb.mono HB.out.size))
        clear hb
        cases q
        · obtain rfl : r = false := by rw [← HR.out]; simpa using HNE.out rfl
          rw [show (!false) = true from rfl]
          go_wp2_with fail
          go_ret
          exact ⟨rfl, HB.out⟩
        · rw [show (!true) = false from rfl]
          go_wp2_with fail
          go_roundw
          case rel => exact ⟨k + 1, by omega, by go_num, HB.out, HST.out rfl⟩
          case measure => simp [intOf]; omega
      · obtain rfl : k = P.length := by omega
        obtain rfl : r = true := by
          rw [← HR.out]
          have := HTK.out
          rw [List.take_length, HLE.out, List.take_length] at this
          simpa using this
        go_wp2_with fail
        go_ret
        exact ⟨rfl, HB.out⟩
  · have hne : ((P.length : Int) != Q.length) = true := by simp; omega
    obtain rfl : r = false := by rw [← HR.out]; simp; intro e; exact hlen (by rw [e])
    clear hlen
    go_wp2_with fail
    go_ret
    exact ⟨rfl, HB.out⟩
set_option maxHeartbeats 2000000 in
set_option maxRecDepth 100000 in
theorem equalF_any (P Q : List Int) (u v : Value) (w : World) (hu : TmsF w u P) (hv : TmsF w v Q) (hP : ∀ b ∈ P, I64 b) (hQ : ∀ b ∈ Q, I64 b) (r : Bool) (hr : decide (P = Q) = r) :
    Calls Try.prog 22 #[u, v] w fun e w' => e = .returned (.bool r) ∧ Below w.heap.size w w' := by
  obtain ⟨x, cap, rfl, hc1, hc2⟩ := SlR.shape hu
  obtain ⟨y, dap, rfl, hd1, hd2⟩ := SlR.shape hv
  unfold maxLen at hc2 hd2
  have HU := Lib.hid hu
  have HV := Lib.hid hv
  have HP := Lib.hid hP
  have HQ := Lib.hid hQ
  have HR := Lib.hid hr
  have HCP : Hid (∀ b ∈ P, (tEn b).length = 1) := Lib.hid (fun b hb => rfl)
  have HCQ : Hid (∀ b ∈ Q, (tEn b).length = 1) := Lib.hid (fun b hb => rfl)
  clear hu hv hP hQ hr
  have HB := Lib.hid (Below.refl w.heap.size w)
  go_enter Try.func22, Try.ntmps22
  by_cases hlen : P.length = Q.length
  · have HLE := Lib.hid hlen
    rw [← hlen] at HV hd1 ⊢
    clear hlen
    have hne : ((P.length : Int) != P.length) = false := by simp
    go_wp2_with fail
    clear hne
    go_loopw [13] (fun i wr => ∃ k : Nat, k ≤ P.length ∧ i = .int .i64 k ∧ Below w.heap.size w wr ∧ P.take k = Q.take k) (fun i _ => P.length - (intOf i).toNat)
    case atStart => exact ⟨0, by omega, rfl, Below.refl _ _, rfl⟩
    case round =>
      obtain ⟨k, hk, rfl, hb, htk⟩ := hrel
      replace HB := Lib.hid hb
      have HTK := Lib.hid htk
      have HU2 := Lib.hid (HU.out.keep HB.out)
      clear hb htk
      have hv2 : SlR wr (.slice y P.length dap) 1 Q.length (Q.flatMap tEn) := SlR.keep HV.out HB.out
      have HV2 := Lib.hid hv2
      clear hv2
      by_cases hlt : k < P.length
      · have hltq : k < Q.length := by have := HLE.out; omega
        obtain ⟨b, o, cap', hve, _, _, _, _⟩ := SlR.pos HU2.out (by decide) (by omega)
        simp only [Value.slice.injEq, true_and] at hve
        obtain ⟨rfl, rfl⟩ := hve
        obtain ⟨b2, o2, cap2, hve, _, _, _, _⟩ := SlR.pos HV2.out (by decide) (by omega)
        simp only [Value.slice.injEq, true_and] at hve
        obtain ⟨rfl, _, rfl⟩ := hve
        have hcu := Lib.hid (flat_at tEn 1 (by decide) HU2.out HCP.out hlt)
        have hcv := Lib.hid (flat_at tEn 1 (by decide) HV2.out HCQ.out hltq)
        obtain ⟨q, hq⟩ : ∃ q, decide (P[k] = Q[k]) = q := ⟨_, rfl⟩
        have HNQ := Lib.hid (int_neq P[k] Q[k] (HP.out _ (List.getElem_mem hlt)) (HQ.out _ (List.getElem_mem hltq)) q hq)
        have HQ2 := Lib.hid hq
        have HST : Hid (q = true → P.take (k + 1) = Q.take (k + 1)) := by
          refine Lib.hid (fun e => ?_)
          rw [e, decide_eq_true_eq] at hq
          rw [List.take_succ_eq_append_getElem hlt, List.take_succ_eq_append_getElem hltq, HTK.out, hq]
        have HNE : Hid (q = false → P ≠ Q) := by
          refine Lib.hid (fun e he => ?_)
          rw [e, decide_eq_false_iff_not] at hq
          exact hq (by subst he; rfl)
        clear hq
        obtain ⟨A, hA⟩ : ∃ A, P[k] = A := ⟨_, rfl⟩
        obtain ⟨B, hB⟩ : ∃ B, Q[k] = B := ⟨_, rfl⟩
        rw [hA] at hcu
        rw [hB] at hcv
        rw [hA, hB] at HNQ HQ2
        clear hA hB
        go_upto_region 6 with (fail)
        refine Agg.chainR 9 (by kernel_rfl) (by kernel_rfl) ?_
        simp only [List.take_succ_cons, List.take_zero, List.drop_succ_cons, List.drop_zero]
        refine Agg.chMove rfl rfl rfl rfl ?_
        refine Agg.chMove rfl rfl rfl rfl ?_
        refine Agg.chIA tiI (by omega) (by omega) rfl rfl rfl rfl rfl ?_
        refine Agg.chLoad rfl rfl rfl rfl (by decide +kernel) (hcu.out 0 _ rfl) ?_
        refine Agg.chMove rfl rfl rfl rfl ?_
        refine Agg.chMove rfl rfl rfl rfl ?_
        refine Agg.chIA tiI (by omega) (by omega) rfl rfl rfl rfl rfl ?_
        refine Agg.chLoad rfl rfl rfl rfl (by decide +kernel) (hcv.out 0 _ rfl) ?_
        refine Agg.chNe (!q) HNQ.out rfl rfl rfl rfl rfl ?_
        refine Agg.chEnd ?_
        intro vs w1 hb _
        refine Agg.wpNil ?_
        simp only [List.reverse, List.reverseAux, Agg.fill, List.set_cons_succ, List.set_cons_zero]
        replace HB := Lib.hid (HB.out.trans (hb.mono HB.out.size))
        clear hb
        cases q
        · obtain rfl : r = false := by rw [← HR.out]; simpa using HNE.out rfl
          rw [show (!false) = true from rfl]
          go_wp2_with fail
          go_ret
          exact ⟨rfl, HB.out⟩
        · rw [show (!true) = false from rfl]
          go_wp2_with fail
          go_roundw
          case rel => exact ⟨k + 1, by omega, by go_num, HB.out, HST.out rfl⟩
          case measure => simp [intOf]; omega
      · obtain rfl : k = P.length := by omega
        obtain rfl : r = true := by
          rw [← HR.out]
          have := HTK.out
          rw [List.take_length, HLE.out, List.take_length] at this
          simpa using this
        go_wp2_with fail
        go_ret
        exact ⟨rfl, HB.out⟩
  · have hne : ((P.length : Int) != Q.length) = true := by simp; omega
    obtain rfl : r = false := by rw [← HR.out]; simp; intro e; exact hlen (by rw [e])
    clear hlen
    go_wp2_with fail
    go_ret
    exact ⟨rfl, HB.out⟩
theorem eqI_any (P Q : List Int) (u v : Value) (w : World) (hu : Tms w u P) (hv : Tms w v Q) (hP : ∀ b ∈ P, I64 b) (hQ : ∀ b ∈ Q, I64 b) (r : Bool) (hr : decide (P = Q) = r) :
    Calls Try.prog 22 #[u, v] w fun e w' => e = .returned (.bool r) ∧ Below w.heap.size w w' :=
  equalF_any P Q u v w (by show SlR _ _ _ _ _; rw [tms_flat]; exact hu) (by show SlR _ _ _ _ _; rw [tms_flat]; exact hv) hP hQ r hr
end Go.Proofs.Ytchpkgneloiidaa
end
section
/-
  THE WALKS OF LAYER 8 (pmc): Cut; bands in memory of their own; bands of ends.
-/
namespace Go.Proofs.Ytchpkgneloiidaa
open Go.ChangeShapes Go.WideShapes Go.ChangeAt Go.RowKit Agg Pg Pm
attribute [local go_sem] Oper.semAt_some

/-- how bands are cut, in memory of its own; nothing, if they may not be -/
def CutV (base : Nat) (l : List Bd) (q : Bool) (u : Value) (w : World) : Prop := if q then w.ownsRow base 3 1 u (cut l).length (nC (cut l)) else u = .slice none 0 0
theorem CutV.yes {base : Nat} {l : List Bd} {u : Value} {w : World} : CutV base l true u w ↔ w.ownsRow base 3 1 u (cut l).length (nC (cut l)) := by unfold CutV; rw [if_pos rfl]
theorem CutV.no {base : Nat} {l : List Bd} {u : Value} {w : World} : CutV base l false u w ↔ u = .slice none 0 0 := by unfold CutV; rw [if_neg (by decide)]
theorem CutV.shape {base : Nat} {l : List Bd} {q : Bool} {u : Value} {w : World} (h : CutV base l q u w) : ∃ x n c, u = .slice x n c := by
  cases q
  · exact ⟨_, _, _, CutV.no.1 h⟩
  · obtain ⟨x, c, h1, _⟩ := (ownSl (CutV.yes.1 h)).shape; exact ⟨_, _, _, h1⟩
theorem CutV.keep {base : Nat} {l : List Bd} {q : Bool} {u : Value} {w w' : World} (h : CutV base l q u w) (hb : Below w.heap.size w w') : CutV base l q u w' := by
  cases q
  · exact CutV.no.2 (CutV.no.1 h)
  · exact CutV.yes.2 (own_keep (CutV.yes.1 h) hb)
theorem own_base {w : World} {b b' : Nat} {e : TypeId} {sz n : Nat} {v : Value} {xs : List Value} (h : w.ownsRow b e sz v n xs) (hb : b' ≤ b) : w.ownsRow b' e sz v n xs :=
  ⟨h.1, h.2.imp id (fun ⟨g, cap, cur, h1, h2, h3⟩ => ⟨g, cap, cur, h1, Nat.le_trans hb h2, h3⟩)⟩
theorem own_bds {base : Nat} {w : World} {v : Value} {l : List Bd} (h : w.ownsRow base 36 3 v l.length (l.flatMap bdC)) : Bds w v l := ownSl h
set_option maxHeartbeats 4000000 in
set_option maxRecDepth 100000 in
theorem tellsC_any (l : List Bd) (v : Value) (kb : Nat) (w : World) (hk : Blk w kb 22 [v]) (hl : Bds w v l) (q : Bool) (hq : checkB l = q) :
    Calls Try.prog 36 #[v, .func (.func 37) #[] #[.pointer (some ⟨kb, 0, none⟩)]] w fun e w' => ∃ u, e = .returned (.tuple #[u, .int .i64 (if q then 0 else 180)]) ∧ CutV w.heap.size l q u w' ∧ Below w.heap.size w w' := by
  obtain ⟨x, cap, rfl, _⟩ := SlR.shape hl
  have HQ := Lib.hid hq
  have HL := Lib.hid hl
  have HK := Lib.hid hk
  clear hk hl hq
  have HB := Lib.hid (Below.refl w.heap.size w)
  go_enter Try.func36, Try.ntmps36
  go_wp2_with fail
  refine (chkB_any l _ w HL.out q HQ.out).mono ?_
  rintro e w1 ⟨rfl, hb⟩
  replace HB := Lib.hid (HB.out.trans (hb.mono HB.out.size))
  replace HL := Lib.hid (HL.out.keep hb)
  replace HK := Lib.hid (HK.out.keep hb)
  clear hb
  cases q
  · go_wp2_with fail
    go_ret2
    exact ⟨_, rfl, CutV.no.2 rfl, HB.out⟩
  · have hce := cut1_any l (.slice x l.length cap) kb w1 HK.out HL.out (check_len HQ.out).2.2.2 (check_len HQ.out).1 (check_len HQ.out).2.1
    have HCE := Lib.hid hce
    clear hce
    go_wp2_with fail
    refine HCE.out.mono ?_
    rintro e w9 ⟨u, rfl, h1, h2⟩
    have HO := Lib.hid (own_base h1 HB.out.size)
    have HB9 := Lib.hid (HB.out.trans (h2.mono HB.out.size))
    obtain ⟨ux, uc, rfl, _, _⟩ := (ownSl h1).shape
    clear h1 h2
    go_wp2_with fail
    go_ret2
    exact ⟨_, rfl, CutV.yes.2 HO.out, HB9.out⟩
set_option maxHeartbeats 4000000 in
set_option maxRecDepth 100000 in
theorem cut_any (l : List Bd) (v : Value) (w : World) (hl : Bds w v l) (q : Bool) (hq : checkB l = q) :
    Calls Try.prog 20 #[v] w fun e w' => ∃ u, e = .returned (.tuple #[u, .int .i64 (if q then 0 else 180)]) ∧ CutV w.heap.size l q u w' ∧ Below w.heap.size w w' := by
  obtain ⟨x, cap, rfl, _⟩ := SlR.shape hl
  have HQ := Lib.hid hq
  have HL := Lib.hid hl
  have hmf : ∀ (fn : Fn) (first cap : Array Value) (w : World), (Instr.makeFunc fn first cap).run Try.prog w = .ok (.func fn first cap) w := fun _ _ _ _ => rfl
  clear hl hq
  have HB := Lib.hid (Below.refl w.heap.size w)
  go_enter Try.func20, Try.ntmps20
  go_upto_region 1 with (fail)
  refine Agg.wp_at fun w1 hw1 => ?_
  have hb : Below w.heap.size w w1 := by rw [hw1.out]; repeat (first | exact Below.refl _ _ | refine Agg.bel_drew ?_ | refine Agg.bel_alloc ?_ _)
  replace HB := Lib.hid (HB.out.trans (hb.mono HB.out.size))
  replace HL := Lib.hid (HL.out.keep hb)
  clear hb
  have HK : Hid (Blk w1 w.heap.size 22 [.slice x l.length cap]) := by show Blk _ _ _ _; rw [hw1.out]; exact Blk.new w 22 #[.slice x l.length cap]
  clear hw1
  have k0 := HK.out.cell 0
  simp only [List.getElem?_cons_zero] at k0
  go_wp2_with fail
  clear k0
  refine (tellsC_any l _ w.heap.size w1 HK.out HL.out q HQ.out).mono ?_
  rintro e w9 ⟨u, rfl, h1, h2⟩
  have h1' : CutV w.heap.size l q u w9 := by
    cases q
    · exact CutV.no.2 (CutV.no.1 h1)
    · exact CutV.yes.2 (own_base (CutV.yes.1 h1) HB.out.size)
  have HO := Lib.hid h1'
  have HB9 := Lib.hid (HB.out.trans (h2.mono HB.out.size))
  obtain ⟨ux, un, uc, rfl⟩ := h1.shape
  clear h1 h2 h1'
  cases q
  · go_wp2_with fail
    go_ret2
    exact ⟨_, rfl, HO.out, HB9.out⟩
  · go_wp2_with fail
    go_ret2
    exact ⟨_, rfl, HO.out, HB9.out⟩
theorem bds_one (l : List Bd) : ∀ v ∈ l.flatMap bdC, v.oneCell' = true := by
  intro v hv
  obtain ⟨r, _, hr⟩ := List.mem_flatMap.1 hv
  simp only [bdC, List.mem_cons, List.not_mem_nil, or_false] at hr
  rcases hr with rfl | rfl | rfl <;> rfl
set_option maxRecDepth 100000 in
theorem cloneB_any (l : List Bd) (v : Value) (w : World) (hv : Bds w v l) (hn : l.length ≤ 1000000) :
    Calls Try.prog 24 #[v] w fun e w' => ∃ u, e = .returned u ∧ w'.ownsRow w.heap.size 36 3 u l.length (l.flatMap bdC) ∧ Below w.heap.size w w' := by
  rcases hv.2 with ⟨rfl, h0⟩ | ⟨x, cap, rfl, hc1, hc2, h5⟩
  · have hl : l = [] := List.eq_nil_of_length_eq_zero h0
    subst hl
    have HV := Lib.hid hv
    clear hv h0
    have HB := Lib.hid (Below.refl w.heap.size w)
    go_enter Try.func24, Try.ntmps24
    have he : ∀ w : World, (binOp .eql 22 (.slice none 0 0) (.slice none 0 0)).run Try.prog w = .ok (.bool true) w := fun _ => rfl
    go_wp2_with fail
    go_ret
    exact ⟨_, rfl, World.ownsRow_nil _ _ _ _, HB.out⟩
  · have hc3 : cap ≤ 9223372036854775807 := by unfold maxLen at hc2; omega
    have hs := Lib.hid (SlR.keep hv ((Below.refl _ w).alloc (Nat.le_refl _) (.cells #[] 36)))
    have hown := Lib.hid (World.ownsRow_lit (e := 36) (size := 3) (base := w.heap.size) w #[] 0 (Nat.le_refl _) (by decide) rfl)
    clear hv h5 hc1 hc2
    have HB := Lib.hid (Below.refl w.heap.size w)
    go_enter Try.func24, Try.ntmps24
    have he : ∀ w : World, (binOp .eql 22 (.slice (some x) l.length cap) (.slice none 0 0)).run Try.prog w = .ok (.bool false) w := fun _ => rfl
    go_wp2_with (refine Agg.append tiBd _ _ rfl rfl w.heap.size (v := .slice (some ⟨w.heap.size, 0, none⟩) 0 0) rfl hown.out rfl hs.out (bds_one l) (by unfold maxLen; omega) (by omega) (by simp) ?_; intro v' w' ho hg hnil; simp only [Act.put, List.setIfInBounds_toArray, List.set_cons_succ, List.set_cons_zero])
    go_ret
    refine ⟨v', rfl, ?_, ?_⟩
    · simpa using ho
    · exact ((Below.refl _ w).alloc (Nat.le_refl _) _).trans ((grown_below hg (B := w.heap.size) (by simp) (by simp [Value.ownBlock])))
def few257 (l : List Bd) : List Bd := l.take (min l.length 257)
theorem bds_take {w : World} {x : Option Addr} {cap : Nat} {l : List Bd} (h : Bds w (.slice x l.length cap) l) (k : Nat) (hk : k ≤ l.length) : Bds w (.slice x k cap) (l.take k) := by
  have := SlR.take h k hk
  show SlR _ _ _ _ _
  rw [List.length_take, Nat.min_eq_left hk]
  have e : (l.take k).flatMap bdC = (l.flatMap bdC).take (k * 3) := by
    have e0 : l.flatMap bdC = (l.take k).flatMap bdC ++ (l.drop k).flatMap bdC := by rw [← List.flatMap_append, List.take_append_drop]
    rw [e0, List.take_left' (by rw [flat_len bdC 3 _ (fun b hb => rfl), List.length_take, Nat.min_eq_left hk])]
  rw [e]; exact this
set_option maxRecDepth 100000 in
theorem few_any (l : List Bd) (v : Value) (w : World) (hl : Bds w v l) :
    Calls Try.prog 11 #[v] w fun e w' => ∃ u, e = .returned u ∧ w'.ownsRow w.heap.size 36 3 u (few257 l).length ((few257 l).flatMap bdC) ∧ Below w.heap.size w w' := by
  obtain ⟨x, cap, rfl, hc, hm⟩ := SlR.shape hl
  have hc3 : cap ≤ 9223372036854775807 := by unfold maxLen at hm; omega
  obtain ⟨m, hmd⟩ : ∃ m, m = min l.length 257 := ⟨_, rfl⟩
  have hm1 : m ≤ l.length := by omega
  have hm2 : m ≤ 257 := by omega
  have hme : min (l.length : Int) 257 = (m : Int) := by omega
  have hs0 := bds_take hl m hm1
  have hle : (l.take m).length = m := by rw [List.length_take]; omega
  unfold few257
  rw [← hmd]
  clear hmd
  generalize l.take m = T at *
  subst hle
  have HS := Lib.hid hs0
  have hmc : (T.length : Int) ≤ cap := by omega
  clear hs0 hl hm
  have HB := Lib.hid (Below.refl w.heap.size w)
  go_enter Try.func11, Try.ntmps11
  go_wp2_with (refine Agg.min2 _ _ _ (T.length : Int) rfl rfl rfl rfl hme ?_; simp only [Act.put, List.setIfInBounds_toArray, List.set_cons_succ, List.set_cons_zero])
  refine (cloneB_any T _ w HS.out (by omega)).mono ?_
  rintro e w9 ⟨u, rfl, h1, h2⟩
  obtain ⟨ux, uc, rfl, _, _⟩ := (ownSl h1).shape
  have H1 := Lib.hid h1
  have H2 := Lib.hid h2
  clear h1 h2
  go_wp2_with fail
  go_ret
  exact ⟨_, rfl, H1.out, H2.out⟩
end Go.Proofs.Ytchpkgneloiidaa
end
