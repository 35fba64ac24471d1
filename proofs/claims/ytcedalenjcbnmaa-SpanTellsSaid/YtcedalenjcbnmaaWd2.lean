/-
  THE DOCUMENT's NUMBERS (layer 1): a number's digits, trim, less.
-/
import Derived.Test.YtcedalenjcbnmaaWd1
import Derived.Test.YtcedalenjcbnmaaRows
import Derived.Test.YtcedalenjcbnmaaCopy
import Derived.WalkKit
import Derived.ProofKit
import Derived.OpenShut
import Derived.Below
import Derived.StillTailTactics
import Derived.Lib.Hide
import Derived.BigQuiet
import Derived.Deep.QuietTactic
import Derived.WalkMore
import Derived.Test.YtcedalenjcbnmaaGood2
import Derived.Test.YtcedalenjcbnmaaAgg2
import Derived.Test.YtcedalenjcbnmaaKn
import Derived.Maps.AppendAt
import Derived.Deep.Cut
namespace Go.Proofs.Ytcedalenjcbnmaa
open Go.ChangeShapes Go.WideShapes Go.ChangeAt Go.RowKit Agg Wd

theorem tiN : TI Try.prog 55 3 1 8 (.int .i64 0) := ⟨by kernel_rfl, by kernel_rfl, rfl, by decide⟩
theorem NB.cellAt {w : World} {b o n cap : Nat} {l : List Nat} (h : SlR w (.slice (some ⟨b, o, none⟩) n cap) 1 l.length (iD l)) {k : Nat} (hk : k < l.length) : w.cell? ⟨b, o + k, none⟩ = some (.int .i64 (l[k] : Int)) := by
  obtain ⟨b', o', cap', hv, _, _, hc, _⟩ := h.pos (by decide) (by omega)
  simp only [Value.slice.injEq, Option.some.injEq, Addr.mk.injEq, and_true] at hv
  obtain ⟨⟨rfl, rfl⟩, _⟩ := hv
  exact hc k _ (iD_get l k hk)
/-- what a cell holds -/
def CellIs (w : World) (a : Addr) (v : Value) : Prop := w.cell? a = some v
theorem CellIs.keep {w w' : World} {a : Addr} {v : Value} (h : CellIs w a v) (hb : Below w.heap.size w w') : CellIs w' a v := cell_keep hb h
/-- an integer of another kind, what it comes to told -/
theorem gInt {P : Program} {w : World} {o : Oper} {Q : Exit → Act → World → Prop} {ops : Array Oper} {rest : List Oper} {a : Act} {s d : TypeId} {x : Operand} {k k' : IntKind} {m : Int} (r : Int) (hg : o.guard = none) (ho : o.op = .convert s d x) (hx : a.eval x = .int k m)
    (hs : P.underlying s = some (.int k)) (hd : P.underlying d = some (.int k')) (hr : k'.wrap m = r) (h : wpList P ops Q rest (a.put o.dst (.int k' r)) w) : wpList P ops Q (o :: rest) a w := by
  subst hr
  refine Agg.run hg _ w ?_ h
  have h2 : (convert s d (.int k m)).run P w = .ok (.int k' (k'.wrap m)) w := by
    simp [convert, run_underlying hs, run_underlying hd, Conv.intToInt]
  simp only [execOp, ho, hx, h2, Sem.run_bind, Result.andThen_ok, Sem.run_pure]
set_option maxHeartbeats 2000000 in
set_option maxRecDepth 100000 in
theorem size_any (n : Nat) (hn : n < 18446744073709551616) (w : World) :
    Calls Try.prog 62 #[.int .u64 (n : Int)] w fun e w' => ∃ v, e = .returned v ∧ NB w' v n ∧ Below w.heap.size w w' := by
  have hd64 : (digs n).length ≤ 64 := digs_len (by simpa using hn)
  have HD := Lib.hid hd64
  clear hd64
  have HN := Lib.hid hn
  clear hn
  have HB := Lib.hid (Below.refl w.heap.size w)
  go_enter Try.func62, Try.ntmps62
  go_wp2_with fail
  go_loopw [0, 3] (fun u v wr => ∃ (m : Nat) (l : List Nat), m ≤ n ∧ u = .int .u64 m ∧ l ++ digs m = digs n ∧ wr.ownsRow w.heap.size 3 1 v l.length (iD l) ∧ Below w.heap.size w wr) (fun u _ _ => (intOf u).toNat)
  case atStart => exact ⟨n, [], Nat.le_refl _, rfl, rfl, World.ownsRow_nil _ _ _ _, HB.out⟩
  case round =>
    obtain ⟨m, l, hm, rfl, hl, ho, hb⟩ := hrel
    replace HB := Lib.hid hb
    have HO := Lib.hid ho
    have HL := Lib.hid hl
    obtain ⟨x, c, rfl, _, _⟩ := (ownSl ho).shape
    clear hb ho hl
    by_cases h0 : (m : Int) > 0
    · have hdp := digs_pos (n := m) (by omega)
      have hll : l.length ≤ 64 := by
        have := HD.out
        rw [← HL.out, List.length_append] at this; omega
      have HE : Hid ((l ++ [m % 2]) ++ digs (m / 2) = digs n) := by
        show _ = _
        rw [← HL.out, hdp]; simp
      have hob := HO.out.keep ((Below.refl _ wr).alloc (Nat.le_refl _) (.cells #[.int .i64 ((m % 2 : Nat) : Int)] 3))
      have hsl := sl_new wr #[.int .i64 ((m % 2 : Nat) : Int)] 3 1 1 rfl (by decide)
      have hsz := HB.out.size
      have hm2 : IntKind.i64.wrap ((m : Int) % 2) = ((m % 2 : Nat) : Int) := by rw [IntKind.wrap_i64]; omega
      clear hdp
      go_wp2_with (first
        | (refine gInt ((m % 2 : Nat) : Int) rfl rfl rfl Try.underlying28 Try.underlying3 hm2 ?_; simp only [Act.put, List.setIfInBounds_toArray, List.set_cons_succ, List.set_cons_zero])
        | (refine Agg.append2 tiN _ _ rfl rfl w.heap.size rfl hob rfl hsl (by simp [Value.oneCell']) (by unfold maxLen; omega) (by omega) (by simp only [World.size_alloc]; omega) ?_; intro v3 w3 ho3 hg3 _; simp only [Act.put, List.setIfInBounds_toArray, List.set_cons_succ, List.set_cons_zero]))
      have hw : IntKind.u64.wrap ((m : Int) / 2) = ((m / 2 : Nat) : Int) := by have := HN.out; rw [IntKind.wrap_u64]; omega
      have hbw : Below w.heap.size w w3 := (HB.out.alloc hsz _).trans (grown_below hg3 (by simp only [World.size_alloc]; omega) (own_block hob))
      rw [hw]
      refine ⟨⟨m / 2, l ++ [m % 2], by omega, rfl, HE.out, ?_, hbw⟩, by simp only [intOf]; omega⟩
      rw [List.length_append, iD_append]; exact ho3
    · obtain rfl : m = 0 := by omega
      have hl0 : l = digs n := by have := HL.out; rwa [digs_zero, List.append_nil] at this
      subst hl0
      go_wp2_with fail
      go_ret
      exact ⟨_, rfl, ownSl HO.out, HB.out⟩
set_option maxHeartbeats 2000000 in
set_option maxRecDepth 100000 in
/-- digits without noughts at the end -/
theorem trim_any (l : List Nat) (hl : ∀ d ∈ l, d < 2) (hlen : l.length ≤ 1000) (v : Value) (w : World) (hv : SlR w v 1 l.length (iD l)) :
    Calls Try.prog 78 #[v] w fun e w' => ∃ u, e = .returned u ∧ NB w' u (val l) ∧ Below w.heap.size w w' := by
  obtain ⟨x, cap, rfl, hcap, hmax⟩ := hv.shape
  unfold maxLen at hmax
  have HV := Lib.hid hv
  have HL := Lib.hid hl
  clear hv hl
  have HB := Lib.hid (Below.refl w.heap.size w)
  go_enter Try.func78, Try.ntmps78
  go_wp2_with fail
  go_loopw [3] (fun i wr => ∃ k : Nat, k ≤ l.length ∧ i = .int .i64 k ∧ val (l.take k) = val l ∧ Below w.heap.size w wr) (fun i _ => (intOf i).toNat)
  case atStart => exact ⟨l.length, Nat.le_refl _, rfl, by rw [List.take_length], HB.out⟩
  case round =>
    obtain ⟨k, hk, rfl, hq, hb⟩ := hrel
    replace HB := Lib.hid hb
    have HQ := Lib.hid hq
    have HV2 := Lib.hid (HV.out.keep hb)
    clear hb hq
    have fin : ∀ wr, SlR wr (.slice x l.length cap) 1 l.length (iD l) → (k = 0 ∨ ∃ h : k - 1 < l.length, l[k - 1] ≠ 0) → NB wr (.slice x k cap) (val l) := by
      intro wr hs hd
      have ht := hs.take k hk
      rw [Nat.mul_one] at ht
      have e : (iD l).take k = iD (l.take k) := by simp [iD]
      rw [e] at ht
      have hc : digs (val (l.take k)) = l.take k := by
        refine canon _ (fun d hd => HL.out d (List.mem_of_mem_take hd)) ?_
        rcases hd with h0 | ⟨h1, h2⟩
        · left; subst h0; rfl
        · by_cases hk0 : k = 0
          · left; subst hk0; rfl
          · right
            obtain ⟨j, rfl⟩ : ∃ j, k = j + 1 := ⟨k - 1, by omega⟩
            simp only [Nat.add_sub_cancel] at h1 h2
            rw [List.length_take, Nat.min_eq_left hk, Nat.add_sub_cancel, List.take_succ_eq_append_getElem h1, val_snoc, List.length_take, Nat.min_eq_left (by omega)]
            have : 1 ≤ l[j] := by omega
            exact Nat.le_trans (by rw [Nat.mul_comm]; exact Nat.le_mul_of_pos_left _ this) (Nat.le_add_left _ _)
      show SlR _ _ _ _ _
      rw [← HQ.out, hc, List.length_take, Nat.min_eq_left hk]
      exact ht
    have HF := Lib.hid fin
    clear fin
    by_cases h0 : (k : Int) > 0
    · obtain ⟨b, o, cap', hve, _, _, hcs, _⟩ := HV2.out.pos (by decide) (by omega)
      simp only [Value.slice.injEq, true_and] at hve
      obtain ⟨rfl, rfl⟩ := hve
      have hkl : k - 1 < l.length := by omega
      have hc : wr.cell? ⟨b, o + (k - 1), none⟩ = some (.int .i64 (l[k - 1] : Int)) := hcs (k - 1) _ (iD_get l (k - 1) hkl)
      have HS : Hid (l[k - 1] = 0 → val (l.take (k - 1)) = val l) := by
        refine Lib.hid (fun hz => ?_)
        rw [← HQ.out]
        obtain ⟨j, rfl⟩ : ∃ j, k = j + 1 := ⟨k - 1, by omega⟩
        simp only [Nat.add_sub_cancel] at hz hkl ⊢
        rw [List.take_succ_eq_append_getElem hkl, val_snoc, hz, Nat.mul_zero, Nat.add_zero]
      by_cases hz : l[k - 1] = 0
      · have HZ := Lib.hid (HS.out hz)
        have hzb : ((l[k - 1] : Int) == 0) = true := by simp [hz]
        clear hz HS hcs
        go_wp2_with fail
        go_roundw
        case rel => exact ⟨k - 1, by omega, by congr 1; omega, HZ.out, HB.out⟩
        case measure => simp only [intOf]; omega
      · have HZ := Lib.hid (HF.out wr HV2.out (.inr ⟨hkl, hz⟩))
        have hzb : ((l[k - 1] : Int) == 0) = false := by simp [hz]
        have hkc : (k : Int) ≤ cap := by omega
        clear hz HS hcs
        go_wp2_with fail
        go_ret
        exact ⟨_, rfl, HZ.out, HB.out⟩
    · obtain rfl : k = 0 := by omega
      have HZ := Lib.hid (HF.out wr HV2.out (.inl rfl))
      go_wp2_with fail
      go_ret
      exact ⟨_, rfl, HZ.out, HB.out⟩
end Go.Proofs.Ytcedalenjcbnmaa
