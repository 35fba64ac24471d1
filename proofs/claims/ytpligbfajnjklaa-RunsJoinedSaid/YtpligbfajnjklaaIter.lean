/-
  THE WALK OF LAYER 7's STATEMENT RunsFew.
-/
import Derived.RangeFuncNested
import Derived.RangeFuncCalls
import Derived.RangeFuncLeaves
import Derived.Below
import Derived.Test.YtpligbfajnjklaaRuF
import Derived.Test.YtpligbfajnjklaaAgg
import Derived.Test.YtpligbfajnjklaaCopy
section
namespace Ru
theorem chain_half : ∀ (l : List Rn), chainOk l = true → l ≠ [] → 2 * ((l.length : Int) - 1) + 1 ≤ many l
  | [], _, h => absurd rfl h
  | [r], h, _ => by
    simp only [chainOk, Bool.and_eq_true] at h
    have := (sized_iff r).1 h.1
    simp [many]; omega
  | r :: b :: l, h, _ => by
    simp only [chainOk, Bool.and_eq_true] at h
    have ih := chain_half (b :: l) h.2 (by simp)
    have hf := ((fine_iff _ _).1 h.1.1.2).2.1
    simp at hf
    rw [many_cons]
    simp only [List.length_cons] at ih ⊢
    omega
theorem of_half {t : List Int} (h : risingB t = true) : 1 ≤ (ofR t).length ∧ 2 * (ofR t).length ≤ t.length + 1 := by
  have hr := rises_of h
  obtain ⟨h1, h2, h3, h4⟩ := (rises_iff _).1 hr
  have hh := chain_half _ h3 (fun e => by rw [e] at h1; simp at h1)
  have hl := (times_len hr).1
  rw [times_of] at hl
  exact ⟨h1, by omega⟩
theorem few_cok {a s : Int} {n : Nat} (ha : 0 ≤ a) (ha2 : a < 1099511627776) (hs : 1 ≤ s) (hs2 : s ≤ 1048576) (hn : 2 ≤ n) (hn2 : n ≤ 256) : Cok (a, s, (n : Int)) ∧ ∀ k : Nat, k < n → 0 ≤ s * k ∧ s * k ≤ 268435456 := by
  have hb : ∀ k : Nat, k < n → 0 ≤ s * k ∧ s * k ≤ 268435456 := fun k hk => by
    refine ⟨Int.mul_nonneg (by omega) (by omega), ?_⟩
    have := Int.mul_le_mul hs2 (show (k : Int) ≤ 256 by omega) (by omega) (by omega)
    omega
  refine ⟨⟨by simp only; omega, by simp only; omega, by simp only; omega, ha, ?_⟩, hb⟩
  have h2 := hb (n - 1) (by omega)
  rw [show ((n - 1 : Nat) : Int) = (n : Int) - 1 by omega] at h2
  simp only [last]; unfold maxT; omega
theorem few_rising {a s : Int} {n : Nat} (h : Cok (a, s, (n : Int))) (hn2 : n ≤ 256) : risingB (ts (a, s, (n : Int))) = true := by
  obtain ⟨h1, h2⟩ := ts_up _ h
  have hb := h.2.2.2
  refine (rising_iff _).2 ⟨?_, ?_, fun x hx => ?_, h2⟩
  · rw [ts_length]; have := h.1; simp at this ⊢; omega
  · rw [ts_length]; simpa using hn2
  · have := h1 x hx; simp only at this hb; omega
theorem few_of {a s : Int} {n : Nat} (h : Cok (a, s, (n : Int))) : ofR (ts (a, s, (n : Int))) = [(a, s, (n : Int))] := by
  obtain ⟨x, h1, h2⟩ := go_first (a, s, (n : Int)) h.1 (fun e => h.2.1.1 e) []
  rw [List.append_nil] at h1
  rw [h1, ofR]
  exact h2
end Ru
namespace Go.Proofs.Ytpligbfajnjklaa
open Go.ChangeShapes Go.WideShapes Go.ChangeAt Go.RowKit Agg Pg Ru

theorem mod_u64 (z : Int) (m : Int) (h0 : 0 < m) (h1 : m < 4611686018427387904) : ∃ r : Nat, wrap64 ((IntKind.u64.wrap z).tmod m) = (r : Int) ∧ (r : Int) < m := by
  have e : IntKind.u64.wrap z = z % 18446744073709551616 := by simp [IntKind.wrap, IntKind.bits, IntKind.signed]
  rw [e, Int.tmod_eq_emod_of_nonneg (by omega)]
  have hm1 := Int.emod_nonneg (z % 18446744073709551616) (show m ≠ 0 by omega)
  have hm2 := Int.emod_lt_of_pos (z % 18446744073709551616) h0
  generalize z % 18446744073709551616 % m = r at *
  exact ⟨r.toNat, by unfold wrap64; omega, by omega⟩
set_option maxHeartbeats 2000000 in
set_option maxRecDepth 100000 in
theorem few_walk (f0 s0 n0 : Int) (l : List Int) (v : Value) (w : World) (hl : Tms w v l) (hi : ∀ z ∈ l, I64 z) :
    Calls Try.prog 5 #[.int .i64 f0, .int .i64 s0, .int .i64 n0, v] w fun e w' => e = .returned (.bool true) ∧ Below w.heap.size w w' := by
  obtain ⟨x, cap, rfl, hc, hm⟩ := SlR.shape hl
  have hc3 : cap ≤ 9223372036854775807 := by unfold maxLen at hm; omega
  have HL := Lib.hid hl
  have HI := Lib.hid hi
  clear hl hi hm
  obtain ⟨a, ha, ha2⟩ := mod_u64 f0 1099511627776 (by decide) (by decide)
  obtain ⟨s, hs, hs2⟩ := mod_u64 s0 1048576 (by decide) (by decide)
  obtain ⟨n, hn, hn2⟩ := mod_u64 n0 255 (by decide) (by decide)
  have HA := Lib.hid ha
  have HS := Lib.hid hs
  have HN := Lib.hid hn
  clear ha hs hn
  have HB := Lib.hid (Below.refl w.heap.size w)
  go_enter Try.func5, Try.ntmps5
  go_wp2_with fail
  refine (wakes_any w).mono ?_
  rintro e w1 ⟨rfl, hb⟩
  replace HB := Lib.hid (HB.out.trans (hb.mono HB.out.size))
  replace HL := Lib.hid (HL.out.keep hb)
  clear hb
  go_upto_region 3 with (fail)
  go_cut [0, 1, 2] from 15 to 28 (fun f t m wx => f = .int .i64 (a : Int) ∧ t = .int .i64 (1 + (s : Int)) ∧ m = .int .i64 (2 + (n : Int)) ∧ wx = w1)
  case first =>
    go_wp2_with fail
    go_meet
    exact ⟨by rw [HA.out], by rw [HS.out]; congr 1; unfold wrap64; omega, by rw [HN.out]; congr 1; unfold wrap64; omega, rfl⟩
  case rest =>
    obtain ⟨rfl, rfl, rfl, hwx⟩ := hcut
    replace hwx := hwx.symm
    subst hwx
    obtain ⟨S, hS⟩ : ∃ S : Int, 1 + (s : Int) = S := ⟨_, rfl⟩
    obtain ⟨N, hN⟩ : ∃ N : Nat, 2 + (n : Int) = (N : Int) := ⟨n + 2, by omega⟩
    rw [hS, hN]
    obtain ⟨A, hA⟩ : ∃ A : Int, (a : Int) = A := ⟨_, rfl⟩
    rw [hA]
    have hA0 : 0 ≤ A ∧ A < 1099511627776 := by omega
    have hS0 : 1 ≤ S ∧ S ≤ 1048576 := by omega
    have hN0 : 2 ≤ N ∧ N ≤ 256 := by omega
    clear HA HS HN hA hS hN ha2 hs2 hn2
    obtain ⟨hA1, hA2⟩ := hA0
    obtain ⟨hS1, hS2⟩ := hS0
    obtain ⟨hN1, hN2⟩ := hN0
    have hck := few_cok hA1 hA2 hS1 hS2 hN1 hN2
    have HCK := Lib.hid hck.1
    have HBD := Lib.hid hck.2
    clear hck
    obtain ⟨W1, hW1⟩ : ∃ x, x = w1 := ⟨_, rfl⟩
    have HFR : Hid (From W1 w1) := Lib.hid (by rw [hW1]; exact Below.refl _ _)
    have HBA : Hid (Below w.heap.size w W1) := Lib.hid (by rw [hW1]; exact HB.out)
    have HL1 : Hid (Tms W1 (.slice x l.length cap) l) := Lib.hid (by rw [hW1]; exact HL.out)
    clear hW1
    go_wp2_with fail
    go_loopw [30, 9] (fun i out wr => ∃ k : Nat, k ≤ N ∧ i = .int .i64 k ∧ From W1 wr ∧ wr.ownsRow W1.heap.size 2 1 out k (tC (ts (A, S, (k : Int))))) (fun i _ _ => N - (intOf i).toNat)
    case atStart => exact ⟨0, by omega, rfl, HFR.out, by rw [show ts (A, S, ((0 : Nat) : Int)) = [] by simp [ts]]; exact World.ownsRow_nil _ _ _ _⟩
    case round =>
      obtain ⟨k, hk, rfl, hfr, ho⟩ := hrel
      clear HFR HL HB
      have HFR := Lib.hid hfr
      have HO := Lib.hid ho
      have HB : Hid (Below w.heap.size w wr) := Lib.hid (HBA.out.trans (hfr.mono HBA.out.size))
      obtain ⟨ux, uc, rfl, _, _⟩ := (ownSl ho).shape
      clear hfr ho
      obtain ⟨wA, hwA⟩ : ∃ x, x = wr := ⟨_, rfl⟩
      subst hwA
      by_cases hkn : k < N
      · obtain ⟨hb1, hb2⟩ := HBD.out k hkn
        have hsc : ts (A, S, ((k + 1 : Nat) : Int)) = ts (A, S, (k : Int)) ++ [A + S * (k : Int)] := by rw [Int.mul_comm]; exact ts_succ A S k
        have HSC := Lib.hid hsc
        clear hsc
        have hal := ((Below.refl _ wA).alloc (Nat.le_refl _) (.cells #[.int .i64 (A + S * (k : Int))] 2))
        have hob := own_keep HO.out hal
        have hsl := sl_new wA #[.int .i64 (A + S * (k : Int))] 2 1 1 rfl (by decide)
        have hfa := HFR.out.trans (hal.mono HFR.out.size)
        have hfs := HFR.out.size
        have HGO := Lib.hid (own_block HO.out)
        go_wp2_with (refine Agg.append ti22 _ _ rfl rfl W1.heap.size (v := .slice ux k uc) rfl hob rfl hsl (by simp [Value.oneCell']) (by unfold maxLen; omega) (by omega) (by simp only [World.size_alloc]; omega) ?_; intro v2 w3 ho3 hg3 _; simp only [Act.put, List.setIfInBounds_toArray, List.set_cons_succ, List.set_cons_zero])
        have hf3 : From W1 w3 := hfa.trans (grown_below hg3 hfa.size HGO.out)
        have ho4 : w3.ownsRow W1.heap.size 2 1 v2 (k + 1) (tC (ts (A, S, ((k + 1 : Nat) : Int)))) := by
          rw [HSC.out, show tC (ts (A, S, (k : Int)) ++ [A + S * (k : Int)]) = tC (ts (A, S, (k : Int))) ++ [Value.int .i64 (A + S * (k : Int))] from List.map_append]
          exact ho3
        exact ⟨⟨k + 1, by omega, by go_num, hf3, ho4⟩, by simp [intOf]; omega⟩
      · obtain rfl : k = N := by omega
        have hT : Tms wA (.slice ux k uc) (ts (A, S, (k : Int))) := by
          have h := ownSl HO.out
          show SlR _ _ _ _ _
          rw [ts_length, Int.toNat_natCast]; exact h
        have HT := Lib.hid hT
        have HL := Lib.hid (SlR.keep HL1.out HFR.out)
        clear hT HO
        have HRI := Lib.hid (few_rising HCK.out hN2)
        have HOF := Lib.hid (few_of HCK.out)
        have HRW : Hid (∀ r ∈ [((A, S, (k : Int)) : Rn)], Rw r) := Lib.hid (by rw [← HOF.out]; exact ofR_rw HRI.out)
        go_wp2_with fail
        refine (of_yes (ts (A, S, (k : Int))) _ wA HT.out HRI.out).mono ?_
        rintro e w21 ⟨u, rfl, hu, hb⟩
        replace HB := Lib.hid (HB.out.trans (hb.mono HB.out.size))
        replace HL := Lib.hid (HL.out.keep hb)
        clear hb
        rw [HOF.out] at hu
        have HU := Lib.hid (own_rus hu)
        obtain ⟨qx, qc, rfl, _, _⟩ := SlR.shape HU.out
        clear hu HT
        go_upto_region 11 with (fail)
        refine Agg.listR 12 (by kernel_rfl) ?_
        simp only [List.take_succ_cons, List.take_zero, List.drop_succ_cons, List.drop_zero]
        refine Agg.chMove rfl rfl rfl rfl ?_
        refine Agg.chNe false (by simp) rfl rfl rfl rfl rfl ?_
        refine Agg.chMove rfl rfl rfl rfl ?_
        refine Agg.chMove rfl rfl rfl rfl ?_
        refine Agg.chMove rfl rfl rfl rfl ?_
        refine Agg.chMove rfl rfl rfl rfl ?_
        refine Agg.chMove rfl rfl rfl rfl ?_
        refine Agg.chBuild (v := .agg (ruC (A, S, (k : Int))).toArray) rfl rfl rfl rfl (fun W => build_run3 A S k W) ?_
        refine Agg.chBuildSlice (e := 31) (ruC (A, S, (k : Int))).toArray rfl rfl rfl rfl (fun W => lit_run (A, S, (k : Int)) W) ?_
        refine Agg.chCall2 Try.func14 rfl (by kernel_rfl) (.bool true) 8 rfl rfl rfl rfl rfl rfl rfl (fun u W hb hu => equalR_any [(A, S, (k : Int))] [(A, S, (k : Int))] _ u W (SlR.keep HU.out hb) (by have h := NewSl.sl (sz := 3) hu rfl (by decide); show SlR _ _ 3 1 ([((A, S, (k : Int)) : Rn)].flatMap ruC); rw [List.flatMap_cons, List.flatMap_nil, List.append_nil]; exact h) HRW.out HRW.out true (by simp)) ?_
        refine Agg.chNot rfl rfl rfl rfl ?_
        refine Agg.chPick rfl rfl rfl rfl rfl ?_
        refine Agg.chEnd ?_
        intro vs w22 hb _
        show Exit.then _ _ Exit.normal _ _
        simp only [List.reverse, List.reverseAux, Agg.fill, List.set_cons_succ, List.set_cons_zero]
        replace HB := Lib.hid (HB.out.trans (hb.mono HB.out.size))
        replace HL := Lib.hid (HL.out.keep hb)
        replace HU := Lib.hid (HU.out.keep hb)
        clear hb
        clear HU HRI HOF HRW HCK HBD
        obtain ⟨m, hmd⟩ : ∃ m, m = min l.length 260 := ⟨_, rfl⟩
        have hm1 : m ≤ l.length := by omega
        have hm2 : m ≤ 260 := by omega
        have hme : min (l.length : Int) 260 = (m : Int) := by omega
        clear hmd
        have hs0 := tms_take HL.out m hm1
        have hle : (l.take m).length = m := by rw [List.length_take]; omega
        generalize l.take m = T at *
        have hmc : (m : Int) ≤ cap := by omega
        have hs := Lib.hid (SlR.keep hs0 ((Below.refl w22.heap.size w22).alloc (Nat.le_refl _) (.cells #[] 2)))
        have hown := Lib.hid (World.ownsRow_lit (e := 2) (size := 1) (base := w22.heap.size) w22 #[] 0 (Nat.le_refl _) (by decide) rfl)
        have HLE := Lib.hid hle
        clear hs0 hle
        have hs2 : SlR (w22.alloc (.cells #[] 2)) (.slice x m cap) 1 m (tC T) := by have h := hs.out; rw [HLE.out] at h; exact h
        clear hs
        go_wp2_with (first
          | (refine Agg.min2 _ _ _ (m : Int) rfl rfl rfl rfl hme ?_; simp only [Act.put, List.setIfInBounds_toArray, List.set_cons_succ, List.set_cons_zero])
          | (refine Agg.append ti22 _ _ rfl rfl w22.heap.size (v := .slice (some ⟨w22.heap.size, 0, none⟩) 0 0) rfl hown.out rfl hs2 (tC_one T) (by unfold maxLen; omega) (by omega) (by simp) ?_; intro v2 w3 ho hg hnil; simp only [Act.put, List.setIfInBounds_toArray, List.set_cons_succ, List.set_cons_zero]))
        have ho2 : w3.ownsRow w22.heap.size 2 1 v2 m (tC T) := by simpa using ho
        obtain ⟨vx, vc, rfl, _, _⟩ := (ownSl ho2).shape
        have hT3 : Tms w3 (.slice vx m vc) T := by
          have h := ownSl ho2
          show SlR _ _ _ _ _
          rw [HLE.out]; exact h
        have hbf : Below w22.heap.size w22 w3 := (((Below.refl w22.heap.size w22).alloc (Nat.le_refl _) (.cells #[] 2))).trans (grown_below hg (by simp) (fun j hj => by cases hj; exact Nat.le_refl _))
        replace HB := Lib.hid (HB.out.trans (hbf.mono HB.out.size))
        clear HL hown hs2 ho hg hnil ho2 hbf
        have HT := Lib.hid hT3
        clear hT3
        obtain ⟨rb, hrb⟩ : ∃ b, risingB T = b := ⟨_, rfl⟩
        have HRB := Lib.hid hrb
        clear hrb
        cases rb
        · refine (of_no T _ w3 HT.out HRB.out).mono ?_
          rintro e w4 ⟨rfl, hb4⟩
          have HB4 := Lib.hid (HB.out.trans (hb4.mono HB.out.size))
          clear hb4
          go_wp2_with fail
          go_ret
          exact ⟨rfl, HB4.out⟩
        · have hhf := of_half HRB.out
          rw [HLE.out] at hhf
          refine (of_yes T _ w3 HT.out HRB.out).mono ?_
          rintro e w4 ⟨u, rfl, hu, hb4⟩
          have HB4 := Lib.hid (HB.out.trans (hb4.mono HB.out.size))
          obtain ⟨yx, yc, rfl, _, _⟩ := (ownSl hu).shape
          clear hb4 hu
          generalize (ofR T).length = q at *
          have hq1 : (q : Int) ≥ 1 := by omega
          have hq2 : (q : Int) ≤ (m : Int) / 2 + 1 := by omega
          have hm0 : (0 : Int) ≤ (m : Int) := by omega
          go_wp2_with fail
          go_ret
          exact ⟨rfl, HB4.out⟩
theorem RunsFew_walk (a s n : Int) (v : Value) (f : Nat) (w : World) (_ : (Lit.int .i64 a).wf = true) (_ : (Lit.int .i64 s).wf = true) (_ : (Lit.int .i64 n).wf = true) (h : Agg.Good Try.prog w f 22 [v]) :
    Calls Try.prog 5 #[.int .i64 a, .int .i64 s, .int .i64 n, v] w fun e w' => e = .returned (.bool true) ∧ Below w.heap.size w w' := by
  obtain ⟨l, h1, h2⟩ := good_times h
  exact few_walk a s n l v w h1 h2
end Go.Proofs.Ytpligbfajnjklaa
end
section
/-
  RANGE OVER A FUNCTION: an iterator that tells a list, one element behind the other; its caller; what is walked plainly holds in a round, too. Over any program.
-/
namespace Agg
open Go Go.RowKit
/-! what is walked plainly holds in a round -/
theorem rowsIn_wide {n : Nat} {P : Program} {row : String} {args : Array Value} {w : World} {R : Value → World → Prop} (h : Rows P row args w R) : RowsIn Fence.wide n P row args w R := by
  intro c cs _
  obtain ⟨v, w', hr, hs⟩ := h c cs
  exact ⟨v, w', hr, stepsIn_wide.2 hs⟩
def noDefer (o : Oper) : Bool := match o.op with | .defer _ => false | _ => true
theorem noDefer_spec {o : Oper} (h : noDefer o = true) : ∀ c, o.op ≠ .defer c := by
  intro c e
  unfold noDefer at h
  rw [e] at h
  cases h
theorem oper_in {r n : Nat} {P : Program} {o : Oper} {a : Act} {w : World} {next next' : Act → World → Prop} {Q : Exit → Act → World → Prop} (hd : noDefer o = true) (hn : ∀ a w, next a w → next' a w) (h : o.wp P a w next Q) : o.wpIn (Fence.wide.inRound r) n P a w next' Q := by
  refine ⟨fun _ _ => trivial, ?_⟩
  unfold Oper.wp at h
  rw [Fence.inRound_round, Oper.semAt_some r a.eval o (noDefer_spec hd)]
  revert h
  cases (execOp a.eval o).run P w with
  | ok v w' =>
    cases v with
    | value v => exact hn _ _
    | skip => exact hn _ _
    | defer d => exact hn _ _
    | enter f args =>
      intro h
      refine ⟨fun e => (by cases e), CallsIn.inRound r ((callsIn_wide (n := n - 1)).2 (Calls.mono h ?_))⟩
      rintro e w2 h2
      cases e with
      | returned v => exact hn _ _ h2
      | panicked c => exact h2
      | outgrown => exact h2
    | row row args =>
      intro h
      refine ⟨fun e => (by cases e), ?_⟩
      exact rowsIn_wide (Rows.mono h fun v w2 h2 => hn _ _ h2)
    | _ => exact fun h => h.elim
  | halt s w' =>
    cases s with
    | panic v => exact fun h => h
    | _ => exact fun h => h.elim
theorem list_in {r n : Nat} {P : Program} {ops : Array Oper} {Q : Exit → Act → World → Prop} (hno : ¬ LetsOut Q) : ∀ (L : List Oper) (a : Act) (w : World), L.all noDefer = true → wpList P ops Q L a w → wpListIn (Fence.wide.inRound r) n P ops Q L a w
  | [], _, _, _, h => h
  | o :: rest, a, w, hd, h => by
    simp only [List.all_cons, Bool.and_eq_true] at hd
    unfold wpList at h
    unfold wpListIn
    by_cases hw : Region.wanted o (yielded ops a.tmps) = true
    · rw [if_pos hw] at h ⊢
      rcases h with h | ⟨_, h⟩
      · exact oper_in hd.1 (fun a w h => list_in hno rest a w hd.2 h) h
      · exact (hno h).elim
    · rw [if_neg hw] at h ⊢
      exact ⟨fun _ _ => trivial, list_in hno rest _ w hd.2 h⟩
/-- a region that does not draw, in a round -/
theorem region_in {r n id : Nat} {P : Program} {l : List Oper} {Q : Exit → Act → World → Prop} {a : Act} {w : World} (hno : ¬ LetsOut Q) (hd : l.all noDefer = true) (h : wpList P l.toArray Q l a w) : (Code.region id l.toArray false).wpIn (Fence.wide.inRound r) n P Q a w :=
  wpIn_region_lit (list_in hno l a w hd h)
theorem ops_in {r n : Nat} {P : Program} {ops : Array Oper} {Q : Exit → Act → World → Prop} (hno : ¬ LetsOut Q) (hd : ops.all noDefer = true) : ∀ (L : List Nat) (a : Act) (w : World), wpOps P ops Q L a w → wpOpsIn (Fence.wide.inRound r) n P ops Q L a w
  | [], _, _, h => h
  | i :: rest, a, w, h => by
    unfold wpOps at h
    unfold wpOpsIn
    cases ho : ops[i]? with
    | none => simp only [ho] at h ⊢; exact ops_in hno hd rest a w h
    | some o =>
      have hod : noDefer o = true := by
        rw [Array.all_eq_true] at hd
        obtain ⟨hlt, rfl⟩ := Array.getElem?_eq_some_iff.1 ho
        exact hd i hlt
      simp only [ho] at h ⊢
      by_cases hw : Region.wanted o (yielded ops a.tmps) = true
      · rw [if_pos hw] at h ⊢
        rcases h with h | ⟨_, h⟩
        · exact oper_in hod (fun a w h => ops_in hno hd rest a w h) h
        · exact (hno h).elim
      · rw [if_neg hw] at h ⊢
        exact ⟨fun _ _ => trivial, ops_in hno hd rest _ w h⟩
/-! what turns: a block that holds no cells, from B on -/
def Turn (B : Nat) (W W' : World) : Prop := ∃ (l : Nat) (o o' : Obj), W' = W.putObj l o' ∧ B ≤ l ∧ W.heap[l]? = some o ∧ o.isCells = false
theorem Turn.grown {B : Nat} {W W' : World} (h : Turn B W W') : ∃ l, W.grownBy W' (some l) ∧ B ≤ l ∧ ∃ o : Obj, W.heap[l]? = some o ∧ o.isCells = false := by
  obtain ⟨l, o, o', rfl, h1, h2, h3⟩ := h
  exact ⟨l, grownBy_putObj' W l o', h1, o, h2, h3⟩
theorem Turn.below {B n0 : Nat} {w W W' : World} (h : Turn B W W') (hb : Below n0 w W) (hn : n0 ≤ B) : Below n0 w W' := by
  obtain ⟨l, hg, h1, o, ho, _⟩ := h.grown
  have := (Array.getElem?_eq_some_iff.1 ho).1
  exact hb.grown hg (by omega) (fun k e => by cases e; omega)
theorem Turn.blk {B g : Nat} {t : TypeId} {cs : List Value} {W W' : World} (h : Turn B W W') (hb : Blk W g t cs) : Blk W' g t cs := by
  obtain ⟨l, hg, _, o, ho, hc⟩ := h.grown
  refine (hg.block g hb.lt (fun e => ?_)).trans hb
  cases e
  unfold Blk at hb
  rw [hb] at ho
  cases ho
  cases hc
theorem Turn.own {B base sz n : Nat} {e : TypeId} {v : Value} {xs : List Value} {W W' : World} (h : Turn B W W') (hb : W.ownsRow base e sz v n xs) : W'.ownsRow base e sz v n xs := by
  obtain ⟨l, hg, _, o, ho, hc⟩ := h.grown
  refine hb.kept hg ?_
  rcases hb.2 with ⟨rfl, _⟩ | ⟨g, cap, cur, rfl, _, hgb, _⟩
  · exact .inl rfl
  · refine .inr fun e' => ?_
    obtain rfl : g = l := by simpa [Value.ownBlock] using e'
    rw [hgb] at ho
    cases ho
    cases hc
/-! what a round keeps -/
theorem keeps_below {B : Nat} {W W' : World} (h : Below W.heap.size W W') : KeepsFrom B W W' := ⟨h.size, fun k o _ hk _ => by rw [h.block k (Array.getElem?_eq_some_iff.1 hk).1]; exact hk⟩
theorem keeps_blk {B g : Nat} {t : TypeId} {cs : List Value} {W W' : World} (hb : Blk W g t cs) (hg : W.grownBy W' (some g)) : KeepsFrom B W W' := by
  refine ⟨hg.size, fun k o _ hk ho => ?_⟩
  rw [hg.block k (Array.getElem?_eq_some_iff.1 hk).1 (fun e => ?_)]
  · exact hk
  · cases e
    unfold Blk at hb
    rw [hb] at hk
    cases hk
    cases ho
theorem keeps_own {B base sz n : Nat} {e : TypeId} {v : Value} {xs : List Value} {W W' : World} (hb : W.ownsRow base e sz v n xs) (hg : W.grownBy W' v.ownBlock) : KeepsFrom B W W' := by
  refine ⟨hg.size, fun k o _ hk ho => ?_⟩
  rw [hg.block k (Array.getElem?_eq_some_iff.1 hk).1 (fun e' => ?_)]
  · exact hk
  · rcases hb.2 with ⟨rfl, _⟩ | ⟨g, cap, cur, rfl, _, hgb, _⟩
    · simp [Value.ownBlock] at e'
    · obtain rfl : k = g := by simpa [Value.ownBlock] using e'
      rw [hgb] at hk
      cases hk
      cases ho
end Agg
end
