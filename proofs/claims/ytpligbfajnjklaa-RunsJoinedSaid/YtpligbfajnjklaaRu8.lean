/-
  EQUALITY OF WHOLE ROWS OF CELLS (structs, arrays, of bools and integers), over any program.
-/
import Derived.DeepKeys2
import Derived.Laws.StructEq
import Derived.Test.YtpligbfajnjklaaAgg
import Derived.Test.YtpligbfajnjklaaRu7
section
namespace Agg
open Go Go.RowKit

/-- the kinds of a flat type's cells, in order (none: a bool) -/
def fieldKinds (K : TypeId → Option (List (Option IntKind))) (P : Program) : Nat → List Field → Option (List (Option IntKind))
  | _, [] => some []
  | off, f :: fs => match K f.type with
    | some l => if f.name != "_" && f.offset == off && l.length == P.cellsOf f.type then (fieldKinds K P (off + l.length) fs).map (l ++ ·) else none
    | none => none
def flatKinds (P : Program) : Nat → TypeId → Option (List (Option IntKind))
  | 0, _ => none
  | n + 1, t => match P.underlying t with
    | some .bool => some [none]
    | some (.int k) => some [some k]
    | some (.array m e) => match flatKinds P n e with
      | some l => if l.length == P.cellsOf e && P.cellsOf t == m * l.length then some (List.replicate m l).flatten else none
      | none => none
    | some (.struct fs) => match fieldKinds (flatKinds P n) P 0 fs.toList with
      | some l => if P.cellsOf t == l.length then some l else none
      | none => none
    | _ => none
/-- a cell of a kind -/
def fit1 : Option IntKind → Value → Prop
  | none, v => ∃ b, v = .bool b
  | some k, v => ∃ n, v = .int k n ∧ (Lit.int k n).wf = true
/-- cells of such kinds -/
def Fits : List (Option IntKind) → List Value → Prop
  | [], [] => True
  | k :: ks, v :: vs => fit1 k v ∧ Fits ks vs
  | _, _ => False
theorem Fits.length : ∀ {ks : List (Option IntKind)} {cs : List Value}, Fits ks cs → cs.length = ks.length
  | [], [], _ => rfl
  | _ :: _, _ :: _, h => by simp [Fits.length h.2]
  | [], _ :: _, h => h.elim
  | _ :: _, [], h => h.elim
theorem Fits.cons {k : Option IntKind} {ks : List (Option IntKind)} {cs : List Value} (h : Fits (k :: ks) cs) : ∃ x r, cs = x :: r ∧ fit1 k x ∧ Fits ks r := by
  cases cs with
  | nil => exact h.elim
  | cons x r => exact ⟨x, r, rfl, h.1, h.2⟩
theorem Fits.nil {cs : List Value} (h : Fits [] cs) : cs = [] := by
  cases cs with
  | nil => rfl
  | cons x r => exact h.elim
theorem Fits.app : ∀ {ks ls : List (Option IntKind)} {cs ds : List Value}, Fits ks cs → Fits ls ds → Fits (ks ++ ls) (cs ++ ds)
  | [], _, [], _, _, h => h
  | _ :: _, _, _ :: _, _, h, k => ⟨h.1, Fits.app h.2 k⟩
  | [], _, _ :: _, _, h, _ => h.elim
  | _ :: _, _, [], _, h, _ => h.elim
theorem Fits.cut : ∀ {ks ls : List (Option IntKind)} {cs : List Value}, Fits (ks ++ ls) cs → Fits ks (cs.take ks.length) ∧ Fits ls (cs.drop ks.length)
  | [], _, _, h => ⟨trivial, h⟩
  | _ :: _, _, [], h => h.elim
  | _ :: _, _, _ :: _, h => ⟨⟨h.1, (Fits.cut h.2).1⟩, (Fits.cut h.2).2⟩
theorem Fits.rep {l : List (Option IntKind)} : ∀ {m : Nat} {cs : List Value}, Fits (List.replicate m l).flatten cs → ∀ i, i < m → Fits l ((cs.drop (i * l.length)).take l.length)
  | 0, _, _, i, hi => by omega
  | m + 1, cs, h, i, hi => by
    rw [List.replicate_succ, List.flatten_cons] at h
    cases i with
    | zero => simpa using h.cut.1
    | succ i =>
      have := Fits.rep h.cut.2 i (by omega)
      rw [List.drop_drop] at this
      rwa [show (i + 1) * l.length = l.length + i * l.length by rw [Nat.succ_mul]; omega]
theorem Fits.mkRep {l : List (Option IntKind)} : ∀ {cs : List (List Value)}, (∀ c ∈ cs, Fits l c) → Fits (List.replicate cs.length l).flatten cs.flatten
  | [], _ => trivial
  | c :: cs, h => by
    rw [List.length_cons, List.replicate_succ, List.flatten_cons, List.flatten_cons]
    exact Fits.app (h c (by simp)) (Fits.mkRep fun d hd => h d (by simp [hd]))

theorem mapM_some {α β : Type} {f : α → Option β} : ∀ {l : List α}, (∀ x ∈ l, ∃ y, f x = some y) → ∃ r, l.mapM f = some r
  | [], _ => ⟨[], rfl⟩
  | a :: l, h => by
    obtain ⟨y, hy⟩ := h a (by simp)
    obtain ⟨r, hr⟩ := mapM_some (l := l) fun x hx => h x (by simp [hx])
    exact ⟨y :: r, by rw [List.mapM_cons, hy, hr]; rfl⟩
theorem fields_lits {P : Program} {K : TypeId → Option (List (Option IntKind))} {n : Nat} (IH : ∀ t ks cs, K t = some ks → Fits ks cs → ∃ l, P.keyLits n t cs = some l) (cs : List Value) :
    ∀ (fs : List Field) (off : Nat) (ks : List (Option IntKind)), fieldKinds K P off fs = some ks → Fits ks (cs.drop off) → (∀ f ∈ fs, (f.name != "_") = true) ∧ ∀ f ∈ fs, ∃ l, P.keyLits n f.type ((cs.drop f.offset).take (P.cellsOf f.type)) = some l
  | [], _, _, _, _ => ⟨fun f hf => (by cases hf), fun f hf => (by cases hf)⟩
  | f :: fs, off, ks, h, hf => by
    unfold fieldKinds at h
    split at h
    · rename_i l hl
      split at h
      · rename_i hc
        simp only [Bool.and_eq_true, beq_iff_eq] at hc
        cases hr : fieldKinds K P (off + l.length) fs with
        | none => simp [hr] at h
        | some r =>
          simp only [hr, Option.map_some, Option.some.injEq] at h
          subst h
          have h1 := hf.cut
          rw [List.drop_drop] at h1
          obtain ⟨i1, i2⟩ := fields_lits IH cs fs _ r hr h1.2
          refine ⟨fun g hg => ?_, fun g hg => ?_⟩
          · rcases List.mem_cons.1 hg with rfl | hg
            · exact hc.1.1
            · exact i1 g hg
          · rcases List.mem_cons.1 hg with rfl | hg
            · rw [hc.1.2, ← hc.2]
              exact IH _ _ _ hl h1.1
            · exact i2 g hg
      · cases h
    · cases h
theorem flat_lits {P : Program} : ∀ (n : Nat) (t : TypeId) (ks : List (Option IntKind)) (cs : List Value), flatKinds P n t = some ks → Fits ks cs → ∃ l, P.keyLits n t cs = some l
  | 0, _, _, _, h, _ => by simp [flatKinds] at h
  | n + 1, t, ks, cs, h, hf => by
    have hlen := hf.length
    unfold flatKinds at h
    unfold Program.keyLits
    cases hu : P.underlying t with
    | none => simp [hu] at h
    | some d =>
      simp only [hu] at h
      cases d
      case bool =>
        simp only [Option.some.injEq] at h
        subst h
        match cs, hf with
        | [v], hf => obtain ⟨b, rfl⟩ := hf.1; exact ⟨_, rfl⟩
      case int k =>
        simp only [Option.some.injEq] at h
        subst h
        match cs, hf with
        | [v], hf => obtain ⟨m, rfl, hw⟩ := hf.1; exact ⟨[.int k m], by simp [hw]⟩
      case array m e =>
        simp only at h
        split at h
        · rename_i l hl
          split at h
          · rename_i hc
            simp only [Bool.and_eq_true, beq_iff_eq] at hc
            simp only [Option.some.injEq] at h
            subst h
            have e1 : cs.length = P.cellsOf t := by
              rw [hlen, hc.2, List.length_flatten]
              simp
            simp only [e1, if_true]
            obtain ⟨r, hr⟩ := mapM_some (f := fun i => P.keyLits n e ((cs.drop (i * P.cellsOf e)).take (P.cellsOf e))) (l := List.range m) fun i hi => by
              rw [← hc.1]
              exact flat_lits n e l _ hl (hf.rep i (List.mem_range.1 hi))
            exact ⟨r.flatten, by rw [hr]; rfl⟩
          · cases h
        · cases h
      case struct fs =>
        simp only at h
        split at h
        · rename_i l hl
          split at h
          · rename_i hc
            simp only [beq_iff_eq] at hc
            simp only [Option.some.injEq] at h
            subst h
            obtain ⟨i1, i2⟩ := fields_lits (fun t ks cs h1 h2 => flat_lits n t ks cs h1 h2) cs fs.toList 0 l hl (by simpa using hf)
            have e1 : cs.length = P.cellsOf t ∧ fs.all (·.name != "_") = true := ⟨by rw [hlen, hc], by
              rw [Array.all_eq_true_iff_forall_mem]
              intro f hf'
              exact i1 f (Array.mem_toList_iff.2 hf')⟩
            simp only [e1, and_self, if_true]
            obtain ⟨r, hr⟩ := mapM_some (f := fun f : Field => P.keyLits n f.type ((cs.drop f.offset).take (P.cellsOf f.type))) (l := fs.toList) i2
            exact ⟨r.flatten, by rw [hr]; rfl⟩
          · cases h
        · cases h
      all_goals (simp at h; done)

/-- what is to be known of a flat type -/
structure Flat (P : Program) (n : Nat) (t : TypeId) (ks : List (Option IntKind)) : Prop where
  kinds : flatKinds P n t = some ks
  key : P.keyTypeAt n t = true
  tiled : P.tiled n t = true
  guard : P.eqGuardType P.depth t = false
  deep : n ≤ 10000
  wide : (match P.underlying t with | some (.array _ _) | some (.struct _) => true | _ => false) = true
theorem Flat.equal {P : Program} {n : Nat} {t : TypeId} {ks : List (Option IntKind)} (F : Flat P n t ks) {xs ys : List Value} (hx : Fits ks xs) (hy : Fits ks ys) (b : Bool) (hb : b = true ↔ xs = ys) (w : World) :
    (Op.equal t (.agg xs.toArray) (.agg ys.toArray)).run P w = .ok b w := by
  obtain ⟨lx, h1⟩ := flat_lits n t ks xs F.kinds hx
  obtain ⟨ly, h2⟩ := flat_lits n t ks ys F.kinds hy
  have c1 := cells_of_lits n t F.tiled _ _ _ h1
  have c2 := cells_of_lits n t F.tiled _ _ _ h2
  have hl : ∀ {zs : List Value}, Fits ks zs → zs.length = P.cellsOf t := by
    intro zs hz
    obtain ⟨l, h⟩ := flat_lits n t ks zs F.kinds hz
    cases n with
    | zero => simp [Program.keyLits] at h
    | succ n =>
      unfold Program.keyLits at h
      have hw := F.wide
      split at hw
      · rename_i hu
        simp only [hu] at h
        split at h
        · assumption
        · cases h
      · rename_i hu
        simp only [hu] at h
        split at h
        · rename_i h'; exact h'.1
        · cases h
      · cases hw
  have formed : ∀ {zs : List Value}, Fits ks zs → (Value.agg zs.toArray).formed P t = true := by
    intro zs hz
    have hw := F.wide
    split at hw
    · rename_i hu; simp [Value.formed, hu, hl hz]
    · rename_i hu; simp [Value.formed, hu, hl hz]
    · cases hw
  obtain ⟨r, hr, hiff⟩ := run_equalIn_deep (P := P) (10000 - n) n t F.key w n n _ _ lx ly (formed hx) (formed hy) (by simpa [Value.cells] using h1) (by simpa [Value.cells] using h2)
  rw [show 10000 - n + n = 10000 by have := F.deep; omega] at hr
  have hrb : r = b := by
    rw [Bool.eq_iff_iff, hiff, hb]
    constructor
    · intro e; rw [c1, c2, e]
    · intro e
      subst e
      rw [h1] at h2
      exact Option.some.inj h2
  subst hrb
  exact hr
theorem Flat.eql {P : Program} {n : Nat} {t : TypeId} {ks : List (Option IntKind)} (F : Flat P n t ks) {xs ys : List Value} (hx : Fits ks xs) (hy : Fits ks ys) (b : Bool) (hb : b = true ↔ xs = ys) (w : World) :
    (binOp .eql t (.agg xs.toArray) (.agg ys.toArray)).run P w = .ok (.bool b) w := by
  simp only [binOp]
  simp [F.equal hx hy b hb w]
theorem Flat.neq {P : Program} {n : Nat} {t : TypeId} {ks : List (Option IntKind)} (F : Flat P n t ks) {xs ys : List Value} (hx : Fits ks xs) (hy : Fits ks ys) (b : Bool) (hb : b = true ↔ xs = ys) (w : World) :
    (binOp .neq t (.agg xs.toArray) (.agg ys.toArray)).run P w = .ok (.bool (!b)) w := by
  simp only [binOp]
  simp [F.equal hx hy b hb w]
theorem Flat.gd {P : Program} {n : Nat} {t : TypeId} {ks : List (Option IntKind)} (F : Flat P n t ks) (op : BinOp) (x y : Operand) (xs ys : Array Value) (w : World) : (eqGuard op t x y (.agg xs) (.agg ys)).run P w = .ok () w :=
  run_eqGuard_agg w op t x y xs ys F.guard
end Agg
end
section
/-
  THE WALKS OF LAYER 7 (runs): rows compared.
-/
namespace Go.Proofs.Ytpligbfajnjklaa
open Go.ChangeShapes Go.WideShapes Go.ChangeAt Go.RowKit Agg Pg Ru

def ksRun : List (Option IntKind) := [some .i64, some .i64, some .i64]
theorem flatRun : Flat Try.prog 3 31 ksRun := ⟨by kernel_rfl, by kernel_rfl, by kernel_rfl, by kernel_rfl, by decide, by kernel_rfl⟩
theorem wf_i64 {z : Int} (h : I64 z) : (Lit.int .i64 z).wf = true := by
  unfold I64 at h
  simp [Lit.wf, IntKind.min, IntKind.max, IntKind.signed, IntKind.bits]; omega
theorem fits_run (r : Rn) (h : Rw r) : Agg.Fits ksRun (ruC r) := ⟨⟨_, rfl, wf_i64 h.1⟩, ⟨_, rfl, wf_i64 h.2.1⟩, ⟨_, rfl, wf_i64 h.2.2⟩, trivial⟩
theorem ruC_inj {a b : Rn} (h : ruC a = ruC b) : a = b := by
  obtain ⟨a1, a2, a3⟩ := a
  obtain ⟨b1, b2, b3⟩ := b
  simp only [ruC, List.cons.injEq, Value.int.injEq, true_and, and_true] at h
  obtain ⟨rfl, rfl, rfl⟩ := h; rfl
theorem run_neq (a b : Rn) (ha : Rw a) (hb : Rw b) (r : Bool) (hr : decide (a = b) = r) (w : World) : (binOp .neq 31 (.agg (ruC a).toArray) (.agg (ruC b).toArray)).run Try.prog w = .ok (.bool (!r)) w :=
  flatRun.neq (fits_run a ha) (fits_run b hb) r (by rw [← hr, decide_eq_true_eq]; exact ⟨fun e => by rw [e], fun e => ruC_inj e⟩) w
theorem int_neq (a b : Int) (_ : I64 a) (_ : I64 b) (r : Bool) (hr : decide (a = b) = r) : (a != b) = !r := by
  subst hr
  by_cases h : a = b <;> simp [h]
def tEn (z : Int) : List Value := [.int .i64 z]
abbrev TmsF (w : World) (v : Value) (l : List Int) : Prop := SlR w v 1 l.length (l.flatMap tEn)
theorem tms_flat (l : List Int) : l.flatMap tEn = tC l := by
  unfold tC
  induction l with
  | nil => rfl
  | cons a l ih => rw [List.flatMap_cons, ih]; rfl
set_option maxHeartbeats 2000000 in
set_option maxRecDepth 100000 in
theorem equalR_any (P Q : List Rn) (u v : Value) (w : World) (hu : Rus w u P) (hv : Rus w v Q) (hP : ∀ b ∈ P, Rw b) (hQ : ∀ b ∈ Q, Rw b) (r : Bool) (hr : decide (P = Q) = r) :
    Calls Try.prog 14 #[u, v] w fun e w' => e = .returned (.bool r) ∧ Below w.heap.size w w' := by
  obtain ⟨x, cap, rfl, hc1, hc2⟩ := SlR.shape hu
  obtain ⟨y, dap, rfl, hd1, hd2⟩ := SlR.shape hv
  unfold maxLen at hc2 hd2
  have HU := Lib.hid hu
  have HV := Lib.hid hv
  have HP := Lib.hid hP
  have HQ := Lib.hid hQ
  have HR := Lib.hid hr
  have HCP : Hid (∀ b ∈ P, (ruC b).length = 3) := Lib.hid (fun b hb => rfl)
  have HCQ : Hid (∀ b ∈ Q, (ruC b).length = 3) := Lib.hid (fun b hb => rfl)
  clear hu hv hP hQ hr
  have HB := Lib.hid (Below.refl w.heap.size w)
  go_enter Try.func14, Try.ntmps14
  by_cases hlen : P.length = Q.length
  · have HLE := Lib.hid hlen
    rw [← hlen] at HV hd1 ⊢
    clear hlen
    have hne : ((P.length : Int) != P.length) = false := by simp
    go_wp2_with fail
    clear hne
    go_loopw [13] (fun i wr => ∃ k : Nat, k ≤ P.length ∧ i = .int .i64 k ∧ Below w.heap.size w wr ∧ P.take k = Q.take k) (fun i _ => P.length - (intOf i).toNat)
    case atStart => exact ⟨0, by omega, rfl, Below.refl _ _, rfl⟩
    case round =>
      obtain ⟨k, hk, rfl, hb, htk⟩ := hrel
      replace HB := Lib.hid hb
      have HTK := Lib.hid htk
      have HU2 := Lib.hid (HU.out.keep HB.out)
      clear hb htk
      have hv2 : SlR wr (.slice y P.length dap) 3 Q.length (Q.flatMap ruC) := SlR.keep HV.out HB.out
      have HV2 := Lib.hid hv2
      clear hv2
      by_cases hlt : k < P.length
      · have hltq : k < Q.length := by have := HLE.out; omega
        obtain ⟨b, o, cap', hve, _, _, _, _⟩ := SlR.pos HU2.out (by decide) (by omega)
        simp only [Value.slice.injEq, true_and] at hve
        obtain ⟨rfl, rfl⟩ := hve
        obtain ⟨b2, o2, cap2, hve, _, _, _, _⟩ := SlR.pos HV2.out (by decide) (by omega)
        simp only [Value.slice.injEq, true_and] at hve
        obtain ⟨rfl, _, rfl⟩ := hve
        have hcu := Lib.hid (flat_at ruC 3 (by decide) HU2.out HCP.out hlt)
        have hcv := Lib.hid (flat_at ruC 3 (by decide) HV2.out HCQ.out hltq)
        obtain ⟨q, hq⟩ : ∃ q, decide (P[k] = Q[k]) = q := ⟨_, rfl⟩
        have HNQ := Lib.hid (run_neq P[k] Q[k] (HP.out _ (List.getElem_mem hlt)) (HQ.out _ (List.getElem_mem hltq)) q hq)
        have HQ2 := Lib.hid hq
        have HST : Hid (q = true → P.take (k + 1) = Q.take (k + 1)) := by
          refine Lib.hid (fun e => ?_)
          rw [e, decide_eq_true_eq] at hq
          rw [List.take_succ_eq_append_getElem hlt, List.take_succ_eq_append_getElem hltq, HTK.out, hq]
        have HNE : Hid (q = false → P ≠ Q) := by
          refine Lib.hid (fun e he => ?_)
          rw [e, decide_eq_false_iff_not] at hq
          exact hq (by subst he; rfl)
        clear hq
        obtain ⟨A, hA⟩ : ∃ A, P[k] = A := ⟨_, rfl⟩
        obtain ⟨B, hB⟩ : ∃ B, Q[k] = B := ⟨_, rfl⟩
        rw [hA] at hcu
        rw [hB] at hcv
        rw [hA, hB] at HNQ HQ2
        clear hA hB
        go_upto_region 6 with (fail)
        refine Agg.chainR 9 (by kernel_rfl) (by kernel_rfl) ?_
        simp only [List.take_succ_cons, List.take_zero, List.drop_succ_cons, List.drop_zero]
        refine Agg.chMove rfl rfl rfl rfl ?_
        refine Agg.chMove rfl rfl rfl rfl ?_
        refine Agg.chIA ti24 (by omega) (by omega) rfl rfl rfl rfl rfl ?_
        refine Agg.chRowAt 3 (ruC A) rfl (by decide +kernel) rfl rfl rfl rfl hcu.out ?_
        refine Agg.chMove rfl rfl rfl rfl ?_
        refine Agg.chMove rfl rfl rfl rfl ?_
        refine Agg.chIA ti24 (by omega) (by omega) rfl rfl rfl rfl rfl ?_
        refine Agg.chRowAt 3 (ruC B) rfl (by decide +kernel) rfl rfl rfl rfl hcv.out ?_
        refine Agg.chBin (v := .bool (!q)) rfl rfl rfl rfl rfl (fun w => flatRun.gd .neq _ _ _ _ w) HNQ.out ?_
        refine Agg.chEnd ?_
        intro vs w1 hb _
        refine Agg.wpNil ?_
        simp only [List.reverse, List.reverseAux, Agg.fill, List.set_cons_succ, List.set_cons_zero]
        replace HB := Lib.hid (HB.out.trans (hb.mono HB.out.size))
        clear hb
        cases q
        · obtain rfl : r = false := by rw [← HR.out]; simpa using HNE.out rfl
          rw [show (!false) = true from rfl]
          go_wp2_with fail
          go_ret
          exact ⟨rfl, HB.out⟩
        · rw [show (!true) = false from rfl]
          go_wp2_with fail
          go_roundw
          case rel => exact ⟨k + 1, by omega, by go_num, HB.out, HST.out rfl⟩
          case measure => simp [intOf]; omega
      · obtain rfl : k = P.length := by omega
        obtain rfl : r = true := by
          rw [← HR.out]
          have := HTK.out
          rw [List.take_length, HLE.out, List.take_length] at this
          simpa using this
        go_wp2_with fail
        go_ret
        exact ⟨rfl, HB.out⟩
  · have hne : ((P.length : Int) != Q.length) = true := by simp; omega
    obtain rfl : r = false := by rw [← HR.out]; simp; intro e; exact hlen (by rw [e])
    clear hlen
    go_wp2_with fail
    go_ret
    exact ⟨rfl, HB.out⟩
set_option maxHeartbeats 2000000 in
set_option maxRecDepth 100000 in
theorem equalT_any (P Q : List Int) (u v : Value) (w : World) (hu : TmsF w u P) (hv : TmsF w v Q) (hP : ∀ b ∈ P, I64 b) (hQ : ∀ b ∈ Q, I64 b) (r : Bool) (hr : decide (P = Q) = r) :
    Calls Try.prog 16 #[u, v] w fun e w' => e = .returned (.bool r) ∧ Below w.heap.size w w' := by
  obtain ⟨x, cap, rfl, hc1, hc2⟩ := SlR.shape hu
  obtain ⟨y, dap, rfl, hd1, hd2⟩ := SlR.shape hv
  unfold maxLen at hc2 hd2
  have HU := Lib.hid hu
  have HV := Lib.hid hv
  have HP := Lib.hid hP
  have HQ := Lib.hid hQ
  have HR := Lib.hid hr
  have HCP : Hid (∀ b ∈ P, (tEn b).length = 1) := Lib.hid (fun b hb => rfl)
  have HCQ : Hid (∀ b ∈ Q, (tEn b).length = 1) := Lib.hid (fun b hb => rfl)
  clear hu hv hP hQ hr
  have HB := Lib.hid (Below.refl w.heap.size w)
  go_enter Try.func16, Try.ntmps16
  by_cases hlen : P.length = Q.length
  · have HLE := Lib.hid hlen
    rw [← hlen] at HV hd1 ⊢
    clear hlen
    have hne : ((P.length : Int) != P.length) = false := by simp
    go_wp2_with fail
    clear hne
    go_loopw [13] (fun i wr => ∃ k : Nat, k ≤ P.length ∧ i = .int .i64 k ∧ Below w.heap.size w wr ∧ P.take k = Q.take k) (fun i _ => P.length - (intOf i).toNat)
    case atStart => exact ⟨0, by omega, rfl, Below.refl _ _, rfl⟩
    case round =>
      obtain ⟨k, hk, rfl, hb, htk⟩ := hrel
      replace HB := Lib.hid hb
      have HTK := Lib.hid htk
      have HU2 := Lib.hid (HU.out.keep HB.out)
      clear hb htk
      have hv2 : SlR wr (.slice y P.length dap) 1 Q.length (Q.flatMap tEn) := SlR.keep HV.out HB.out
      have HV2 := Lib.hid hv2
      clear hv2
      by_cases hlt : k < P.length
      · have hltq : k < Q.length := by have := HLE.out; omega
        obtain ⟨b, o, cap', hve, _, _, _, _⟩ := SlR.pos HU2.out (by decide) (by omega)
        simp only [Value.slice.injEq, true_and] at hve
        obtain ⟨rfl, rfl⟩ := hve
        obtain ⟨b2, o2, cap2, hve, _, _, _, _⟩ := SlR.pos HV2.out (by decide) (by omega)
        simp only [Value.slice.injEq, true_and] at hve
        obtain ⟨rfl, _, rfl⟩ := hve
        have hcu := Lib.hid (flat_at tEn 1 (by decide) HU2.out HCP.out hlt)
        have hcv := Lib.hid (flat_at tEn 1 (by decide) HV2.out HCQ.out hltq)
        obtain ⟨q, hq⟩ : ∃ q, decide (P[k] = Q[k]) = q := ⟨_, rfl⟩
        have HNQ := Lib.hid (int_neq P[k] Q[k] (HP.out _ (List.getElem_mem hlt)) (HQ.out _ (List.getElem_mem hltq)) q hq)
        have HQ2 := Lib.hid hq
        have HST : Hid (q = true → P.take (k + 1) = Q.take (k + 1)) := by
          refine Lib.hid (fun e => ?_)
          rw [e, decide_eq_true_eq] at hq
          rw [List.take_succ_eq_append_getElem hlt, List.take_succ_eq_append_getElem hltq, HTK.out, hq]
        have HNE : Hid (q = false → P ≠ Q) := by
          refine Lib.hid (fun e he => ?_)
          rw [e, decide_eq_false_iff_not] at hq
          exact hq (by subst he; rfl)
        clear hq
        obtain ⟨A, hA⟩ : ∃ A, P[k] = A := ⟨_, rfl⟩
        obtain ⟨B, hB⟩ : ∃ B, Q[k] = B := ⟨_, rfl⟩
        rw [hA] at hcu
        rw [hB] at hcv
        rw [hA, hB] at HNQ HQ2
        clear hA hB
        go_upto_region 6 with (fail)
        refine Agg.chainR 9 (by kernel_rfl) (by kernel_rfl) ?_
        simp only [List.take_succ_cons, List.take_zero, List.drop_succ_cons, List.drop_zero]
        refine Agg.chMove rfl rfl rfl rfl ?_
        refine Agg.chMove rfl rfl rfl rfl ?_
        refine Agg.chIA ti22 (by omega) (by omega) rfl rfl rfl rfl rfl ?_
        refine Agg.chLoad rfl rfl rfl rfl (by decide +kernel) (hcu.out 0 _ rfl) ?_
        refine Agg.chMove rfl rfl rfl rfl ?_
        refine Agg.chMove rfl rfl rfl rfl ?_
        refine Agg.chIA ti22 (by omega) (by omega) rfl rfl rfl rfl rfl ?_
        refine Agg.chLoad rfl rfl rfl rfl (by decide +kernel) (hcv.out 0 _ rfl) ?_
        refine Agg.chNe (!q) HNQ.out rfl rfl rfl rfl rfl ?_
        refine Agg.chEnd ?_
        intro vs w1 hb _
        refine Agg.wpNil ?_
        simp only [List.reverse, List.reverseAux, Agg.fill, List.set_cons_succ, List.set_cons_zero]
        replace HB := Lib.hid (HB.out.trans (hb.mono HB.out.size))
        clear hb
        cases q
        · obtain rfl : r = false := by rw [← HR.out]; simpa using HNE.out rfl
          rw [show (!false) = true from rfl]
          go_wp2_with fail
          go_ret
          exact ⟨rfl, HB.out⟩
        · rw [show (!true) = false from rfl]
          go_wp2_with fail
          go_roundw
          case rel => exact ⟨k + 1, by omega, by go_num, HB.out, HST.out rfl⟩
          case measure => simp [intOf]; omega
      · obtain rfl : k = P.length := by omega
        obtain rfl : r = true := by
          rw [← HR.out]
          have := HTK.out
          rw [List.take_length, HLE.out, List.take_length] at this
          simpa using this
        go_wp2_with fail
        go_ret
        exact ⟨rfl, HB.out⟩
  · have hne : ((P.length : Int) != Q.length) = true := by simp; omega
    obtain rfl : r = false := by rw [← HR.out]; simp; intro e; exact hlen (by rw [e])
    clear hlen
    go_wp2_with fail
    go_ret
    exact ⟨rfl, HB.out⟩
theorem eqT_any (P Q : List Int) (u v : Value) (w : World) (hu : Tms w u P) (hv : Tms w v Q) (hP : ∀ b ∈ P, I64 b) (hQ : ∀ b ∈ Q, I64 b) (r : Bool) (hr : decide (P = Q) = r) :
    Calls Try.prog 16 #[u, v] w fun e w' => e = .returned (.bool r) ∧ Below w.heap.size w w' :=
  equalT_any P Q u v w (by show SlR _ _ _ _ _; rw [tms_flat]; exact hu) (by show SlR _ _ _ _ _; rw [tms_flat]; exact hv) hP hQ r hr
end Go.Proofs.Ytpligbfajnjklaa
end
