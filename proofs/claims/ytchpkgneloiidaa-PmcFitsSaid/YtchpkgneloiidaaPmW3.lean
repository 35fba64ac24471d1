/-
  THE DOCUMENT's NUMBERS (layer 1): less, power.
-/
import Derived.Test.YtchpkgneloiidaaPmW2
import Derived.Test.YtchpkgneloiidaaChain2
namespace Go.Proofs.Ytchpkgneloiidaa
open Go.ChangeShapes Go.WideShapes Go.ChangeAt Go.RowKit Agg Wd

theorem val_top (l : List Nat) (i : Nat) (h : i < l.length) : val l = val (l.take i) + 2 ^ i * (l[i] + 2 * val (l.drop (i + 1))) := by
  rw [val_cut l i (by omega), val_drop l i h]
theorem take_val_lt (l : List Nat) (hl : ∀ d ∈ l, d < 2) (i : Nat) (h : i ≤ l.length) : val (l.take i) < 2 ^ i := by
  have := val_lt (l.take i) (fun d hd => hl d (List.mem_of_mem_take hd))
  rwa [List.length_take, Nat.min_eq_left h] at this
theorem less_top (l m : List Nat) (hl : ∀ d ∈ l, d < 2) (hm : ∀ d ∈ m, d < 2) (i : Nat) (h1 : i < l.length) (h2 : i < m.length) (he : l.drop (i + 1) = m.drop (i + 1)) (hne : l[i] ≠ m[i]) : (l[i] < m[i] ↔ val l < val m) := by
  rw [val_top l i h1, val_top m i h2, he]
  have a1 := take_val_lt l hl i (by omega)
  have a2 := take_val_lt m hm i (by omega)
  have b1 := mem_lt hl i h1
  have b2 := mem_lt hm i h2
  generalize val (m.drop (i + 1)) = X at *
  generalize val (l.take i) = Y at *
  generalize val (m.take i) = Z at *
  generalize 2 ^ i = p at *
  rcases (by omega : l[i] = 0 ∨ l[i] = 1) with e1 | e1 <;> rcases (by omega : m[i] = 0 ∨ m[i] = 1) with e2 | e2
  · omega
  · rw [e1, e2, Nat.mul_add, Nat.mul_add]; omega
  · rw [e1, e2, Nat.mul_add, Nat.mul_add]; omega
  · omega
set_option maxHeartbeats 2000000 in
set_option maxRecDepth 100000 in
theorem less_any (a b : Nat) (ha : (digs a).length ≤ 1000) (hb : (digs b).length ≤ 1000) (u v : Value) (w : World) (hu : NB w u a) (hv : NB w v b) (r : Bool) (hr : decide (a < b) = r) :
    Calls Try.prog 56 #[u, v] w fun e w' => e = .returned (.bool r) ∧ Below w.heap.size w w' := by
  have HA := Lib.hid (digs_lt a)
  have HBD := Lib.hid (digs_lt b)
  have HLT : Hid ((digs a).length < (digs b).length → a < b) := Lib.hid len_lt
  have HGT : Hid ((digs b).length < (digs a).length → b < a) := Lib.hid len_lt
  have HEQ : Hid (digs a = digs b → a = b) := Lib.hid (fun h => by rw [← val_digs a, h, val_digs])
  have HTOP : Hid (∀ i (h1 : i < (digs a).length) (h2 : i < (digs b).length), (digs a).drop (i + 1) = (digs b).drop (i + 1) → (digs a)[i] ≠ (digs b)[i] → ((digs a)[i] < (digs b)[i] ↔ a < b)) := by
    refine Lib.hid (fun i h1 h2 he hne => ?_)
    have := less_top (digs a) (digs b) (digs_lt a) (digs_lt b) i h1 h2 he hne
    rwa [val_digs, val_digs] at this
  have HR := Lib.hid hr
  have HU : Hid (SlR w u 1 (digs a).length (iD (digs a))) := Lib.hid hu
  have HV : Hid (SlR w v 1 (digs b).length (iD (digs b))) := Lib.hid hv
  clear hr hu hv
  generalize digs a = A at *
  generalize digs b = B at *
  obtain ⟨x, cx, rfl, hcx, hmx⟩ := HU.out.shape
  obtain ⟨y, cy, rfl, hcy, hmy⟩ := HV.out.shape
  unfold maxLen at hmx hmy
  by_cases hne : A.length = B.length
  · rw [← hne] at HV ⊢
    have HNE := Lib.hid hne
    have hb0 : ((A.length : Int) != (A.length : Int)) = false := by simp
    clear hne HLT HGT hb
    have HB := Lib.hid (Below.refl w.heap.size w)
    go_enter Try.func56, Try.ntmps56
    go_wp2_with fail
    go_loopw [5] (fun i wr => ∃ k : Nat, k ≤ A.length ∧ i = .int .i64 ((k : Int) - 1) ∧ A.drop k = B.drop k ∧ Below w.heap.size w wr) (fun i _ => (intOf i + 1).toNat)
    case atStart => exact ⟨A.length, Nat.le_refl _, rfl, by rw [List.drop_length, HNE.out, List.drop_length], HB.out⟩
    case round =>
      obtain ⟨k, hk, rfl, hq, hb⟩ := hrel
      replace HB := Lib.hid hb
      have HQ := Lib.hid hq
      have HU2 := Lib.hid (HU.out.keep hb)
      have HV2 := Lib.hid (HV.out.keep hb)
      clear hb hq
      by_cases h0 : (k : Int) - 1 ≥ 0
      · obtain ⟨j, rfl⟩ : ∃ j, k = j + 1 := ⟨k - 1, by omega⟩
        have e1 : ((j + 1 : Nat) : Int) - 1 = (j : Int) := by omega
        rw [e1] at h0 ⊢
        have hjA : j < A.length := by omega
        have hjB : j < B.length := by rw [← HNE.out]; exact hjA
        obtain ⟨b1, o1, _, hve, _, _, hcs, _⟩ := HU2.out.pos (by decide) (by omega)
        simp only [Value.slice.injEq, true_and] at hve
        obtain ⟨rfl, rfl⟩ := hve
        obtain ⟨b2, o2, _, hve, _, _, hcs2, _⟩ := HV2.out.pos (by decide) (by omega)
        simp only [Value.slice.injEq, true_and] at hve
        obtain ⟨rfl, rfl⟩ := hve
        have hc1 : wr.cell? ⟨b1, o1 + (j : Int).toNat * 1, none⟩ = some (.int .i64 (A[j] : Int)) := by simpa using hcs j _ (iD_get A j hjA)
        have hc2 : wr.cell? ⟨b2, o2 + (j : Int).toNat * 1, none⟩ = some (.int .i64 (B[j] : Int)) := by simpa using hcs2 j _ (iD_get B j hjB)
        have HT := Lib.hid (HTOP.out j hjA hjB HQ.out)
        have HD : Hid (A[j] = B[j] → A.drop j = B.drop j) := by
          refine Lib.hid (fun h => ?_)
          rw [← List.getElem_cons_drop hjA, ← List.getElem_cons_drop hjB, h, HQ.out]
        clear hcs hcs2
        have HC1 : Hid (CellIs wr ⟨b1, o1 + (j : Int).toNat * 1, none⟩ (.int .i64 (A[j] : Int))) := Lib.hid hc1
        have HC2 : Hid (CellIs wr ⟨b2, o2 + (j : Int).toNat * 1, none⟩ (.int .i64 (B[j] : Int))) := Lib.hid hc2
        generalize A[j] = p at *
        generalize B[j] = q at *
        go_upto_region 6 with (fail)
        by_cases hpq : p = q
        · have HDE := Lib.hid (HD.out hpq)
          have hb1 : ((p : Int) != (q : Int)) = false := by simp [hpq]
          refine Agg.chainR 9 (by kernel_rfl) (by kernel_rfl) ?_
          simp only [List.take_succ_cons, List.take_zero, List.drop_succ_cons, List.drop_zero]
          refine Agg.chMove rfl rfl rfl rfl ?_
          refine Agg.chMove rfl rfl rfl rfl ?_
          refine Agg.chIA tiN (by omega) (by omega) rfl rfl rfl rfl rfl ?_
          refine Agg.chLoad rfl rfl rfl rfl (by decide +kernel) hc1 ?_
          refine Agg.chMove rfl rfl rfl rfl ?_
          refine Agg.chMove rfl rfl rfl rfl ?_
          refine Agg.chIA tiN (by omega) (by omega) rfl rfl rfl rfl rfl ?_
          refine Agg.chLoad rfl rfl rfl rfl (by decide +kernel) hc2 ?_
          refine Agg.chNe false hb1 rfl rfl rfl rfl rfl ?_
          refine Agg.chEnd ?_
          intro vs w11 hb _
          refine Agg.wpNil ?_
          simp only [List.reverse, List.reverseAux, Agg.fill, List.set_cons_succ, List.set_cons_zero]
          replace HB := Lib.hid (HB.out.trans (hb.mono HB.out.size))
          replace HU2 := Lib.hid (HU2.out.keep hb)
          replace HV2 := Lib.hid (HV2.out.keep hb)
          replace HC1 := Lib.hid (HC1.out.keep hb)
          replace HC2 := Lib.hid (HC2.out.keep hb)
          clear hb
          clear hc1 hc2 hb1 hpq
          go_wp2_with fail
          go_roundw
          case rel => exact ⟨j, by omega, rfl, HDE.out, HB.out⟩
          case measure => simp only [intOf]; omega
        · have hb1 : ((p : Int) != (q : Int)) = true := by rw [bne_iff_ne]; omega
          have hlt := HT.out hpq
          refine Agg.chainR 9 (by kernel_rfl) (by kernel_rfl) ?_
          simp only [List.take_succ_cons, List.take_zero, List.drop_succ_cons, List.drop_zero]
          refine Agg.chMove rfl rfl rfl rfl ?_
          refine Agg.chMove rfl rfl rfl rfl ?_
          refine Agg.chIA tiN (by omega) (by omega) rfl rfl rfl rfl rfl ?_
          refine Agg.chLoad rfl rfl rfl rfl (by decide +kernel) hc1 ?_
          refine Agg.chMove rfl rfl rfl rfl ?_
          refine Agg.chMove rfl rfl rfl rfl ?_
          refine Agg.chIA tiN (by omega) (by omega) rfl rfl rfl rfl rfl ?_
          refine Agg.chLoad rfl rfl rfl rfl (by decide +kernel) hc2 ?_
          refine Agg.chNe true hb1 rfl rfl rfl rfl rfl ?_
          refine Agg.chEnd ?_
          intro vs w12 hb _
          refine Agg.wpNil ?_
          simp only [List.reverse, List.reverseAux, Agg.fill, List.set_cons_succ, List.set_cons_zero]
          replace HB := Lib.hid (HB.out.trans (hb.mono HB.out.size))
          replace HU2 := Lib.hid (HU2.out.keep hb)
          replace HV2 := Lib.hid (HV2.out.keep hb)
          replace HC1 := Lib.hid (HC1.out.keep hb)
          replace HC2 := Lib.hid (HC2.out.keep hb)
          clear hb
          have hc3 : w12.cell? ⟨b1, o1 + (j : Int).toNat * 1, none⟩ = some (.int .i64 (p : Int)) := HC1.out
          have hc4 : w12.cell? ⟨b2, o2 + (j : Int).toNat * 1, none⟩ = some (.int .i64 (q : Int)) := HC2.out
          have hd : decide ((p : Int) < (q : Int)) = r := by
            rw [← HR.out, decide_eq_decide, ← hlt]; omega
          clear hc1 hc2 hb1 hpq hlt
          go_upto_region 7 with (fail)
          refine Agg.chainR 10 (by kernel_rfl) (by kernel_rfl) ?_
          simp only [List.take_succ_cons, List.take_zero, List.drop_succ_cons, List.drop_zero]
          refine Agg.chMove rfl rfl rfl rfl ?_
          refine Agg.chMove rfl rfl rfl rfl ?_
          refine Agg.chIA tiN (by omega) (by omega) rfl rfl rfl rfl rfl ?_
          refine Agg.chLoad rfl rfl rfl rfl (by decide +kernel) hc3 ?_
          refine Agg.chMove rfl rfl rfl rfl ?_
          refine Agg.chMove rfl rfl rfl rfl ?_
          refine Agg.chIA tiN (by omega) (by omega) rfl rfl rfl rfl rfl ?_
          refine Agg.chLoad rfl rfl rfl rfl (by decide +kernel) hc4 ?_
          refine Agg.chLt (r) hd rfl rfl rfl rfl rfl ?_
          refine Agg.chAssign rfl rfl rfl rfl ?_
          refine Agg.chEnd ?_
          intro vs w13 hb _
          refine Agg.wpNil ?_
          simp only [List.reverse, List.reverseAux, Agg.fill, List.set_cons_succ, List.set_cons_zero]
          replace HB := Lib.hid (HB.out.trans (hb.mono HB.out.size))
          replace HU2 := Lib.hid (HU2.out.keep hb)
          replace HV2 := Lib.hid (HV2.out.keep hb)
          replace HC1 := Lib.hid (HC1.out.keep hb)
          replace HC2 := Lib.hid (HC2.out.keep hb)
          clear hb
          clear hc3 hc4 hd
          go_wp2_with fail
          go_ret
          exact ⟨rfl, HB.out⟩
      · obtain rfl : k = 0 := by omega
        have hab := HEQ.out (by simpa using HQ.out)
        have hrf : r = false := by rw [← HR.out, hab]; simp
        subst hrf
        clear hab
        go_wp2_with fail
        go_ret
        exact ⟨rfl, HB.out⟩
  · have hb0 : ((A.length : Int) != (B.length : Int)) = true := by rw [bne_iff_ne]; omega
    have hd : decide (A.length < B.length) = r := by
      rw [← HR.out, decide_eq_decide]
      constructor
      · intro h; exact HLT.out h
      · intro h
        apply Classical.byContradiction
        intro h2
        have := HGT.out (by omega)
        omega
    have HDD := Lib.hid hd
    clear hne hb hd
    have HB := Lib.hid (Below.refl w.heap.size w)
    go_enter Try.func56, Try.ntmps56
    go_wp2_with fail
    go_ret
    exact ⟨congrArg (fun z => Ending.returned (Value.bool z)) HDD.out, HB.out⟩
set_option maxHeartbeats 2000000 in
set_option maxRecDepth 100000 in
theorem digs_pow (n : Nat) : digs (2 ^ n) = List.replicate n 0 ++ [1] := by
  induction n with
  | zero => rw [Nat.pow_zero, digs_pos (by decide)]; show 1 % 2 :: digs 0 = [1]; rw [digs_zero]
  | succ n ih =>
    rw [digs_pos (Nat.pow_pos (by decide)), Nat.pow_succ, Nat.mul_mod_left, Nat.mul_div_cancel _ (by decide), ih, List.replicate_succ, List.cons_append]
set_option maxHeartbeats 2000000 in
set_option maxRecDepth 100000 in
theorem power_any (n : Nat) (hn : n ≤ 1000) (w : World) :
    Calls Try.prog 57 #[.int .i64 (n : Int)] w fun e w' => ∃ v, e = .returned v ∧ NB w' v (2 ^ n) ∧ Below w.heap.size w w' := by
  have HB := Lib.hid (Below.refl w.heap.size w)
  go_enter Try.func57, Try.ntmps57
  go_wp2_with fail
  go_loopw [4, 3] (fun i v wr => ∃ k : Nat, k ≤ n ∧ i = .int .i64 k ∧ wr.ownsRow w.heap.size 3 1 v k (iD (List.replicate k 0)) ∧ Below w.heap.size w wr) (fun i _ _ => n - (intOf i).toNat)
  case atStart => exact ⟨0, by omega, rfl, World.ownsRow_nil _ _ _ _, HB.out⟩
  case round =>
    obtain ⟨k, hk, rfl, ho, hb⟩ := hrel
    replace HB := Lib.hid hb
    have HO := Lib.hid ho
    obtain ⟨x, c, rfl, _, _⟩ := (ownSl ho).shape
    clear hb ho
    have hsz := HB.out.size
    by_cases h0 : k < n
    · have hob := HO.out.keep ((Below.refl _ wr).alloc (Nat.le_refl _) (.cells #[.int .i64 0] 3))
      have hsl := sl_new wr #[.int .i64 0] 3 1 1 rfl (by decide)
      go_wp2_with (refine Agg.append2 tiN _ _ rfl rfl w.heap.size rfl hob rfl hsl (by simp [Value.oneCell']) (by unfold maxLen; omega) (by omega) (by simp only [World.size_alloc]; omega) ?_; intro v3 w3 ho3 hg3 _; simp only [Act.put, List.setIfInBounds_toArray, List.set_cons_succ, List.set_cons_zero])
      have hbw : Below w.heap.size w w3 := (HB.out.alloc hsz _).trans (grown_below hg3 (by simp only [World.size_alloc]; omega) (own_block hob))
      have ho4 : w3.ownsRow w.heap.size 3 1 v3 (k + 1) (iD (List.replicate (k + 1) 0)) := by
        rw [List.replicate_succ', iD_append]; exact ho3
      obtain ⟨x3, c3, rfl, _, _⟩ := (ownSl ho3).shape
      go_roundw
      case rel => exact ⟨k + 1, by omega, by go_num, ho4, hbw⟩
      case measure => simp [intOf]; omega
    · obtain rfl : k = n := by omega
      have hob := HO.out.keep ((Below.refl _ wr).alloc (Nat.le_refl _) (.cells #[.int .i64 1] 3))
      have hsl := sl_new wr #[.int .i64 1] 3 1 1 rfl (by decide)
      go_wp2_with (refine Agg.append2 tiN _ _ rfl rfl w.heap.size rfl hob rfl hsl (by simp [Value.oneCell']) (by unfold maxLen; omega) (by omega) (by simp only [World.size_alloc]; omega) ?_; intro v3 w3 ho3 hg3 _; simp only [Act.put, List.setIfInBounds_toArray, List.set_cons_succ, List.set_cons_zero])
      have hbw : Below w.heap.size w w3 := (HB.out.alloc hsz _).trans (grown_below hg3 (by simp only [World.size_alloc]; omega) (own_block hob))
      go_ret
      refine ⟨_, rfl, ?_, hbw⟩
      show SlR _ _ _ _ _
      rw [digs_pow, List.length_append, List.length_replicate, iD_append]
      exact ownSl ho3
end Go.Proofs.Ytchpkgneloiidaa
