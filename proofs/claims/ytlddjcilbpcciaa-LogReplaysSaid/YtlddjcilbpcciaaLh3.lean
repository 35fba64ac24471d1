/-
  THE LOG: the document's groups (plain).
-/
import Derived.Test.YtlddjcilbpcciaaLgX
import Derived.Test.YtlddjcilbpcciaaLgZ
section
namespace Go.Proofs.Ytlddjcilbpcciaa
open Go.ChangeShapes Go.WideShapes Go.ChangeAt Go.RowKit Agg Pg Dv Lg

theorem lay_stamp {d d' : List UInt8} {k k' : Int} {n n' : Nat} (h : layB k d n = layB k' d' n') : n = n' := by
  simp only [layB, secsOf, List.cons.injEq, Prod.mk.injEq] at h
  exact h.1.1
theorem lay_iff {b : List Sec} (hb : BOk b) (hk : pOk b = true) {d : List UInt8} (hd : d.length ≤ 120) {n : Nat} : layB 2 d n = b ↔ layL d n = b := by
  by_cases hs : stampP n
  · rw [layL_ok hd hs]
  · have h0 := (pOk_iff b).1 hk
    have hz : layL d n = zeroB := by
      unfold layL layR
      rw [if_neg (fun h => hs h.2)]
    constructor
    · intro h
      rcases readR_two b hb with ⟨_, _, h2, h3⟩ | ⟨h1, _⟩
      · rw [← h3] at h
        exact absurd (lay_stamp h ▸ h2) hs
      · exact absurd h0.1 h1
    · intro h
      rw [hz] at h
      rw [← h] at h0
      exact absurd h0.1 readR_zero
/-- do the blocks lie there, as the document lays them? -/
noncomputable def sameD (f : Nat → List Sec) (p m k : Nat) : Bool := (List.range k).all fun i => decide (layB 2 (partL (grp f p m) m i) (pSt (f p) + i) = f (p + i))
theorem sameD_zero (f : Nat → List Sec) (p m : Nat) : sameD f p m 0 = true := rfl
theorem sameD_succ (f : Nat → List Sec) (p m k : Nat) : sameD f p m (k + 1) = (sameD f p m k && decide (layB 2 (partL (grp f p m) m k) (pSt (f p) + k) = f (p + k))) := by
  unfold sameD; rw [List.range_succ, List.all_append]; simp
theorem same_doc {f : Nat → List Sec} (hf : ∀ i, BOk (f i)) {p m : Nat} (h : okTo f p m = true) : sameD f p m m = sameB f p m m := by
  unfold sameD sameB
  rw [Bool.eq_iff_iff, List.all_eq_true, List.all_eq_true]
  refine forall_congr' fun i => ?_
  constructor
  · intro h1 hi
    have := of_decide_eq_true (h1 hi)
    exact decide_eq_true ((lay_iff (hf _) ((okTo_iff f p m).1 h i (List.mem_range.1 hi)) (partL_len _ _ _)).1 this)
  · intro h1 hi
    have := of_decide_eq_true (h1 hi)
    exact decide_eq_true ((lay_iff (hf _) ((okTo_iff f p m).1 h i (List.mem_range.1 hi)) (partL_len _ _ _)).2 this)
theorem try_doc {f : Nat → List Sec} (hf : ∀ i, BOk (f i)) {p last m : Nat} (h1 : okTo f p m = true) (h2 : last < pSt (f p)) (h3 : needL (grp f p m).length = (m : Int)) : tryB f p last m = sameD f p m m := by
  unfold tryB
  rw [h1, same_doc hf h1, decide_eq_true h2, decide_eq_true h3]
  simp
theorem try_ok {f : Nat → List Sec} {p last m : Nat} (h : okTo f p m = false) : tryB f p last m = false := by unfold tryB; rw [h]; simp
theorem try_le {f : Nat → List Sec} {p last m : Nat} (h : pSt (f p) ≤ last) : tryB f p last m = false := by
  unfold tryB; rw [show decide (last < pSt (f p)) = false from decide_eq_false (by omega)]; simp
theorem try_nd {f : Nat → List Sec} {p last m : Nat} (h : needL (grp f p m).length ≠ (m : Int)) : tryB f p last m = false := by
  unfold tryB; rw [decide_eq_false h]; simp
theorem next_no {f : Nat → List Sec} {p last k M : Nat} (h16 : p + k ≤ 16) (h : nextF f p last k (17 - p - k) = M) (ht : tryB f p last k = false) : nextF f p last (k + 1) (17 - p - (k + 1)) = M := by
  rw [show 17 - p - k = (17 - p - (k + 1)) + 1 by omega, nextF, if_neg (by rw [ht]; decide)] at h
  exact h
theorem next_yes {f : Nat → List Sec} {p last k M : Nat} (h16 : p + k ≤ 16) (h : nextF f p last k (17 - p - k) = M) (ht : tryB f p last k = true) : M = k := by
  rw [show 17 - p - k = (17 - p - (k + 1)) + 1 by omega, nextF, if_pos ht] at h
  exact h.symm
end Go.Proofs.Ytlddjcilbpcciaa
end
section
/-
  THE LOG: the document's At.
-/
namespace Go.Proofs.Ytlddjcilbpcciaa
open Go.ChangeShapes Go.WideShapes Go.ChangeAt Go.RowKit Agg Pg Dv Lg
attribute [local go_sem] Oper.semAt_some

set_option maxHeartbeats 4000000 in
set_option maxRecDepth 100000 in
theorem rAt_any (P : List (List Sec)) (l : List (Int × List Sec)) (z : Int) (q : Bool) (x y : Option Addr) (cap cm : Nat) (p : Nat) (hpl : p < P.length) (w : World)
    (hd2 : l.length ≤ 1000000) (hp : Pgs w (.slice x P.length cap) P) (hv : Wrs w (.slice y l.length cm) l) (hP : ∀ b ∈ P, BOk b) (hC : ∀ x ∈ l, BOk x.2) :
    Calls Try.prog 51 #[.agg #[.slice x P.length cap, .slice y l.length cm, .int .i64 z, .bool q], .int .i64 (p : Int)] w fun e w' => e = .returned (.agg (blkC (saysP P l p)).toArray) ∧ Below w.heap.size w w' := by
  obtain ⟨b, o, cap', hve, _, hmx, _, _⟩ := SlR.pos hp (by decide) (by omega)
  simp only [Value.slice.injEq, true_and] at hve
  obtain ⟨rfl, rfl⟩ := hve
  unfold maxLen at hmx
  have HP := Lib.hid hp
  have HV := Lib.hid hv
  have HV0 := HV
  have HPB := Lib.hid hP
  have HCB := Lib.hid hC
  have HW : Hid (∀ x ∈ l, (wrC x).length = 133) := Lib.hid (fun x hx => wrC_length x (hC x hx))
  have HPL := Lib.hid hpl
  have hln : (l.length : Int) ≤ 1000000 := by omega
  have hpn : (p : Int) < P.length := by omega
  clear hp hv hP hC
  have HB := Lib.hid (Below.refl w.heap.size w)
  go_enter Try.func51, Try.ntmps51
  go_upto_region 1 with (refine Agg.allocRow 54 (blkC zeroB).toArray rfl rfl (by kernel_rfl) ?_; simp only [Act.put, List.setIfInBounds_toArray, List.set_cons_succ, List.set_cons_zero])
  refine Agg.wp_at fun w1 hw1 => ?_
  have hb : Below w.heap.size w w1 := by rw [hw1.out]; repeat (first | exact Below.refl _ _ | refine Agg.bel_drew ?_ | refine Agg.bel_alloc ?_ _)
  replace HB := Lib.hid (HB.out.trans (hb.mono HB.out.size))
  replace HP := Lib.hid (HP.out.keep hb)
  replace HV := Lib.hid (HV.out.keep hb)
  clear hb
  have H1 : Hid (Blk w1 w.heap.size 28 [.slice (some ⟨b, o, none⟩) P.length cap, .slice y l.length cm, .int .i64 z, .bool q]) := by show Blk _ _ _ _; rw [hw1.out]; exact (Blk.new w 28 #[.slice (some ⟨b, o, none⟩) P.length cap, .slice y l.length cm, .int .i64 z, .bool q]).al _
  have H2 : Hid (Blk w1 (w.heap.size + 1) 54 (blkC zeroB)) := by show Blk _ _ _ _; rw [hw1.out]; exact Blk.newAt (w.alloc _) 54 (blkC zeroB).toArray _ (by simp)
  clear hw1
  have hcs := flat_at blkC 132 (by decide) HP.out (fun b hb => bok_cells (HPB.out b hb)) hpl
  have hbo := HPB.out _ (List.getElem_mem hpl)
  have h132 := bok_cells hbo
  have h1 := blkC_one P[p]
  have HGP : Hid (P.getD p zeroB = P[p]) := Lib.hid (by rw [List.getD_eq_getElem?_getD, List.getElem?_eq_getElem hpl]; rfl)
  generalize P[p] = s at *
  have xH1_0 := H1.out.cell 0
  have xH1_1 := H1.out.cell 1
  have xH1_2 := H1.out.cell 2
  have xH1_3 := H1.out.cell 3
  have lH1 := H1.out.lt
  simp only [List.getElem?_cons_zero, List.getElem?_cons_succ] at xH1_0 xH1_1 xH1_2 xH1_3
  go_upto_region 2 with (first
    | (refine Agg.gLoad 132 (blkC s) rfl rfl rfl (by decide +kernel) h132 hcs ?_; simp only [Act.put, List.setIfInBounds_toArray, List.set_cons_succ, List.set_cons_zero])
    | (refine Agg.allocRow 54 (blkC zeroB).toArray rfl rfl (by kernel_rfl) ?_; simp only [Act.put, List.setIfInBounds_toArray, List.set_cons_succ, List.set_cons_zero])
    | (refine Agg.gStoreNew 132 (blkC s) rfl rfl rfl rfl rfl rfl (by decide +kernel) h132 zero132 h1 ?_; simp only [Act.put]))
  have HS := Lib.hid (Blk.new w1 54 (blkC s).toArray)
  have HB4 := Lib.hid (bel_alloc HB.out (.cells (blkC s).toArray 54))
  have H24 := Lib.hid (H2.out.al (.cells (blkC s).toArray 54))
  have H14 := Lib.hid (H1.out.al (.cells (blkC s).toArray 54))
  have HS2 : Hid (w.heap.size + 1 < w1.heap.size) := Lib.hid H2.out.lt
  obtain ⟨bs, hbs⟩ : ∃ b, w1.heap.size = b := ⟨_, rfl⟩
  rw [hbs] at HS HS2 ⊢
  refine Agg.wp_at fun w4 hw4 => ?_
  rw [← hw4.out] at HS HB4 H24 H14
  clear xH1_0 xH1_1 xH1_2 xH1_3 lH1
  clear hw4 hbs hcs h1 h132 HP HV H1 H2 HB
  have HB := HB4
  have HBO := Lib.hid hbo
  clear HB4 hbo
  go_wp2_with fail
  go_loopw [6] (fun i wr => ∃ r : Nat, r ≤ l.length ∧ i = .int .i64 r ∧ Below w.heap.size w wr ∧ Blk wr bs 54 (blkC (saysP P (l.take r) p)) ∧ Blk wr (w.heap.size + 1) 54 (blkC zeroB) ∧ Blk wr w.heap.size 28 [.slice (some ⟨b, o, none⟩) P.length cap, .slice y l.length cm, .int .i64 z, .bool q]) (fun i _ => l.length - (intOf i).toNat)
  case atStart => exact ⟨0, by omega, rfl, HB.out, by rw [List.take_zero, saysP_zero, Int.toNat_natCast, HGP.out]; exact HS.out, H24.out, H14.out⟩
  case round =>
    obtain ⟨r, hr, rfl, hb, hs, h2, h1⟩ := hrel
    replace HB := Lib.hid hb
    have HV := Lib.hid (SlR.keep HV0.out hb)
    replace HS := Lib.hid hs
    have H2 := Lib.hid h2
    have H1 := Lib.hid h1
    have HSO := Lib.hid (saysP_bok HPB.out (l := l.take r) (fun x hx => HCB.out x (List.mem_of_mem_take hx)) p)
    clear hb hs h2 h1 H24 H14
    have c1 := H1.out.cell 1
    simp only [List.getElem?_cons_zero, List.getElem?_cons_succ] at c1
    obtain ⟨wA, hwA⟩ : ∃ x, x = wr := ⟨_, rfl⟩
    subst hwA
    by_cases hlt : r < l.length
    · obtain ⟨b2, o2, cap2, hve, _, _, _, _⟩ := SlR.pos HV.out (by decide) (by omega)
      simp only [Value.slice.injEq, true_and] at hve
      obtain ⟨rfl, rfl⟩ := hve
      have hcs := flat_at wrC 133 (by decide) HV.out HW.out hlt
      have HBO2 := Lib.hid (HCB.out _ (List.getElem_mem hlt))
      have HST := Lib.hid (saysP_succ P l p r hlt)
      generalize l[r] = u at *
      generalize saysP P (l.take r) p = cur at *
      have e0 : wA.cell? ⟨b2, o2 + r * 133, none⟩ = some (.int .i64 u.1) := hcs 0 _ rfl
      by_cases hs : u.1 = p
      · have hsb : (u.1 == (p : Int)) = true := by simpa using hs
        have h132 := bok_cells HBO2.out
        have h132c := bok_cells HSO.out
        have HST2 : Hid (saysP P (l.take (r + 1)) p = u.2) := Lib.hid (by rw [HST.out, if_pos hs])
        have hc132 : ∀ i v, (blkC u.2)[i]? = some v → wA.cell? ⟨b2, o2 + r * 133 + 1 + i, none⟩ = some v := fun i v hi => by
          rw [show o2 + r * 133 + 1 + i = o2 + r * 133 + (i + 1) by omega]; exact hcs (i + 1) v hi
        have hsb2 := HS.out
        clear hs HST hcs
        go_wp2_with (first
          | (refine Agg.gLoad 132 (blkC u.2) rfl rfl rfl (by decide +kernel) h132 hc132 ?_; simp only [Act.put, List.setIfInBounds_toArray, List.set_cons_succ, List.set_cons_zero])
          | (refine Agg.gStoreB 132 (blkC u.2) hsb2 rfl rfl rfl rfl rfl (by decide +kernel) h132c h132 (blkC_one _) (fun w14 hb14 hg14 => ?_)))
        have h2c := H2.out.far' hg14 (by have := HS2.out; omega)
        have h1c := H1.out.far' hg14 (by have := HS2.out; omega)
        have hbc := HB.out.trans (grown_below hg14 HB.out.size (fun j hj => by cases hj; have := HS2.out; omega))
        go_wp2_with fail
        exact ⟨⟨r + 1, by omega, by go_num, hbc, by rw [HST2.out]; exact hb14, h2c, h1c⟩, by simp [intOf]; omega⟩
      · have hsb : (u.1 == (p : Int)) = false := by simpa using hs
        have HST2 : Hid (saysP P (l.take (r + 1)) p = cur) := Lib.hid (by rw [HST.out, if_neg hs])
        clear hs HST hcs
        go_wp2_with fail
        exact ⟨⟨r + 1, by omega, by go_num, HB.out, by rw [HST2.out]; exact HS.out, H2.out, H1.out⟩, by simp [intOf]; omega⟩
    · obtain rfl : r = l.length := by omega
      rw [List.take_length] at HS HSO
      have hs2 := HS.out
      have h2 := H2.out
      have h132 := bok_cells HSO.out
      have hsz := HB.out.size
      go_wp2_with (first
        | (refine Agg.gLoadB 132 hs2 h132 rfl rfl rfl (by decide +kernel) ?_; simp only [Act.put, List.setIfInBounds_toArray, List.set_cons_succ, List.set_cons_zero])
        | (refine Agg.gStoreB 132 (blkC (saysP P l p)) h2 rfl rfl rfl rfl rfl (by decide +kernel) zero132 h132 (blkC_one _) (fun w14 hb14 hg14 => ?_)))
      refine bodyPost_ret (results_row1 (m := 132) rfl hb14 rfl (by decide +kernel) h132) rfl ⟨rfl, ?_⟩
      exact HB.out.trans (grown_below hg14 hsz (fun j hj => by cases hj; omega))
end Go.Proofs.Ytlddjcilbpcciaa
end
section
/-
  THE LOG: the document's Blocks.
-/
namespace Go.Proofs.Ytlddjcilbpcciaa
open Go.ChangeShapes Go.WideShapes Go.ChangeAt Go.RowKit Agg Pg Dv Lg
attribute [local go_sem] Oper.semAt_some

/-- a group's blocks, as the document lays them -/
def rblG (n : Nat) (B : List UInt8) (m k : Nat) : List (List Sec) := (List.range k).map fun i => layB 2 (partL B m i) (n + i)
theorem rblG_length (n : Nat) (B : List UInt8) (m k : Nat) : (rblG n B m k).length = k := by simp [rblG]
theorem rblG_succ (n : Nat) (B : List UInt8) (m k : Nat) : rblG n B m (k + 1) = rblG n B m k ++ [layB 2 (partL B m k) (n + k)] := by
  unfold rblG; rw [List.range_succ, List.map_append]; rfl
theorem rblG_get (n : Nat) (B : List UInt8) (m k i : Nat) (h : i < (rblG n B m k).length) : (rblG n B m k)[i] = layB 2 (partL B m i) (n + i) := by simp [rblG]
theorem layB_bok' (kind : Int) (d : List UInt8) (n : Nat) (h : d.length ≤ 120) (hn : n < 18446744073709551616) : BOk (layB kind d n) := ⟨(layB_ok kind d n h).1, fun s hs => ⟨(layB_ok kind d n h).2 s hs, by
  simp only [layB, secsOf, List.mem_cons, List.not_mem_nil, or_false] at hs
  rcases hs with rfl | rfl | rfl | rfl <;> exact hn⟩⟩
theorem rblG_bok (n : Nat) (B : List UInt8) (m k : Nat) (h : n + k ≤ 18446744073709551616) : ∀ b ∈ rblG n B m k, BOk b := by
  intro b hb
  obtain ⟨i, hi, rfl⟩ := List.mem_map.1 hb
  have := List.mem_range.1 hi
  exact layB_bok' 2 _ _ (partL_len B m i) (by omega)
set_option maxHeartbeats 4000000 in
set_option maxRecDepth 100000 in
theorem rgBlocks_any (n : Nat) (B : List UInt8) (vb : Value) (m : Nat) (w : World) (hB : Bytes w vb B) (hbl : B.length ≤ 10000) (hm : (m : Int) = needL B.length) (hn : n + m < 18446744073709551616) :
    Calls Try.prog 22 #[.int .u64 (n : Int), vb] w fun e w' => ∃ u, e = .returned u ∧ w'.ownsRow w.heap.size 54 132 u m ((rblG n B m m).flatMap blkC) ∧ Below w.heap.size w w' := by
  obtain ⟨bx, bc, rfl, _, _⟩ := SlR.shape hB
  have HB0 := Lib.hid hB
  obtain ⟨hm1, hm2⟩ := need_step hm
  have hm4 : m ≤ 200 := by
    by_cases h : m = 0
    · omega
    · have := hm2 (m - 1) (by omega); omega
  have HM2 := Lib.hid hm2
  have HM := Lib.hid hm
  clear hB hm hm2
  have HB := Lib.hid (Below.refl w.heap.size w)
  go_enter Try.func22, Try.ntmps22
  go_wp2_with fail
  refine (rneed_any (B.length : Int) (by omega) (by omega) w).mono ?_
  rintro e w1 ⟨rfl, hb⟩
  replace HB := Lib.hid (HB.out.trans (hb.mono HB.out.size))
  clear hb
  rw [← HM.out]
  go_wp2_with fail
  obtain ⟨wZ, hwZ⟩ : ∃ x, x = w1 := ⟨_, rfl⟩
  subst hwZ
  have HBZ := HB
  clear HB
  go_loopw [7, 5, 8, 9] (fun ix s5 s8 s9 wr => ∃ k : Nat, k ≤ m ∧ ix = .int .i64 k ∧ wr.ownsRow w.heap.size 54 132 s5 k ((rblG n B m k).flatMap blkC) ∧ Below w.heap.size w wr) (fun ix _ _ _ _ => m - (intOf ix).toNat)
  case atStart => exact ⟨0, by omega, rfl, World.ownsRow_nil _ _ _ _, HBZ.out⟩
  case round =>
    obtain ⟨k, hk, rfl, ho, hb⟩ := hrel
    have HB := Lib.hid hb
    have HO := Lib.hid ho
    have HBY := Lib.hid (SlR.keep HB0.out hb)
    obtain ⟨xo, co, rfl, _, _⟩ := (ownSl ho).shape
    clear ho hb HBZ
    obtain ⟨wA, hwA⟩ : ∃ x, x = wr := ⟨_, rfl⟩
    subst hwA
    by_cases hlt : k < m
    · have hpos : 118 * k < B.length := HM2.out k hlt
      have hk200 : k < 200 := by omega
      have hbA : Below wA.heap.size wA (wA.alloc (.cells #[.int .u8 (k : Int), .int .u8 (m : Int)] 5)) := (Below.refl _ _).alloc (Nat.le_refl _) _
      have HLI : Hid ((wA.alloc (.cells #[.int .u8 (k : Int), .int .u8 (m : Int)] 5)).ownsRow wA.heap.size 5 1 (.slice (some ⟨wA.heap.size, 0, none⟩) 2 2) 2 (bv [UInt8.ofNat k, UInt8.ofNat m])) := Lib.hid (blk_own (r := []) (by
        rw [List.append_nil]
        have e : bv [UInt8.ofNat k, UInt8.ofNat m] = [.int .u8 (k : Int), .int .u8 (m : Int)] := by
          simp only [bv, List.map_cons, List.map_nil, UInt8.toNat_ofNat']
          rw [Nat.mod_eq_of_lt (by omega), Nat.mod_eq_of_lt (by omega)]
        rw [e]
        exact Blk.new wA 5 #[.int .u8 (k : Int), .int .u8 (m : Int)]) (Nat.le_refl _) (Nat.le_refl _) (by unfold maxLen; decide) (by simp [bv]) (by simp [bv]))
      go_wp2_with fail
      have HBA := Lib.hid hbA
      clear hbA
      generalize hwB : wA.alloc (.cells #[.int .u8 (k : Int), .int .u8 (m : Int)] 5) = wB at *
      obtain ⟨t, ht⟩ : ∃ t, t = min 118 (B.length - 118 * k) := ⟨_, rfl⟩
      have HT := Lib.hid ht
      have HBv := HB
      have HOv := HO
      have HYv := HBY
      have hlA : wA.heap.size < wB.heap.size := by rw [← hwB]; simp
      clear hwB HB HO HBY
      go_loopw [8, 9] (fun s8 s9 wr => ∃ j : Nat, j ≤ t ∧ s9 = .int .i64 ((118 * k + j : Nat) : Int) ∧ wr.ownsRow wA.heap.size 5 1 s8 (2 + j) (bv (UInt8.ofNat k :: UInt8.ofNat m :: (B.drop (118 * k)).take j)) ∧ Below wA.heap.size wA wr) (fun _ s9 _ => 118 * k + t - (intOf s9).toNat)
      case atStart => exact ⟨0, by omega, by go_num, by simpa using HLI.out, HBA.out⟩
      case round =>
        obtain ⟨j, hj, rfl, hd, hb⟩ := hrel
        have HD := Lib.hid hd
        have HFA : Hid (From wA wr) := Lib.hid hb
        have HB := Lib.hid (HBv.out.trans (hb.mono HBv.out.size))
        have HO := Lib.hid (HOv.out.keep hb)
        have HBY := Lib.hid (SlR.keep HYv.out hb)
        obtain ⟨xd, cd, rfl, _, _⟩ := (ownSl hd).shape
        have hsz := hb.size
        clear hd hb HLI HBA
        obtain ⟨wC, hwC⟩ : ∃ x, x = wr := ⟨_, rfl⟩
        subst hwC
        by_cases hjt : j < t
        · have hin : 118 * k + j < B.length := by have := HT.out; omega
          obtain ⟨c, hc⟩ : ∃ c, B[118 * k + j] = c := ⟨_, rfl⟩
          have htk : (UInt8.ofNat k :: UInt8.ofNat m :: (B.drop (118 * k)).take j) ++ [c] = UInt8.ofNat k :: UInt8.ofNat m :: (B.drop (118 * k)).take (j + 1) := by
            rw [List.take_succ_eq_append_getElem (by rw [List.length_drop]; omega), List.getElem_drop, hc]; rfl
          have HTK := Lib.hid htk
          have l1 : decide (((118 * k + j : Nat) : Int) < 118 * (k : Int) + 118) = true := by
            have := HT.out; simp; omega
          have l2 : decide (((118 * k + j : Nat) : Int) < (B.length : Int)) = true := by simp; omega
          have HL := Lib.hid (And.intro l1 l2)
          clear htk l1 l2
          obtain ⟨f, hf⟩ : ∃ f, 118 * k + j = f := ⟨_, rfl⟩
          have hbg := bv_get B _ hin
          rw [hc] at hbg
          rw [hf] at HL hbg
          clear hc
          rw [hf]
          go_upto_region 8 with (fail)
          refine Agg.listR 11 (by kernel_rfl) ?_
          simp only [List.take_succ_cons, List.take_zero, List.drop_succ_cons, List.drop_zero]
          refine Agg.chMove rfl rfl rfl rfl ?_
          refine Agg.chMove rfl rfl rfl rfl ?_
          refine Agg.chAr64 rfl rfl rfl rfl (by omega) (by omega) rfl rfl ?_
          refine Agg.chAr64 rfl rfl rfl rfl (by omega) (by omega) rfl rfl ?_
          refine Agg.chLt true HL.out.1 rfl rfl rfl rfl rfl ?_
          refine Agg.chMove rfl rfl rfl rfl ?_
          refine Agg.chMove rfl rfl rfl rfl ?_
          refine Agg.chMove rfl rfl rfl rfl ?_
          refine Agg.chLen Try.underlying37 rfl rfl rfl rfl ?_
          refine Agg.chLt true HL.out.2 rfl rfl rfl rfl rfl ?_
          refine Agg.chPick rfl rfl rfl rfl rfl ?_
          refine Agg.chEnd ?_
          intro vs w41 hb _
          show Exit.then _ _ Exit.normal _ _
          simp only [List.reverse, List.reverseAux, Agg.fill, List.set_cons_succ, List.set_cons_zero]
          replace HB := Lib.hid (HB.out.trans (hb.mono HB.out.size))
          replace HD := Lib.hid (HD.out.keep hb)
          replace HO := Lib.hid (HO.out.keep hb)
          replace HBY := Lib.hid (HBY.out.keep hb)
          replace HFA := Lib.hid (HFA.out.keep hb)
          clear hb
          go_upto_region 10 with (fail)
          obtain ⟨gb, ob, cb, hve, hc1, hc2, hcm, _⟩ := SlR.pos HBY.out (by decide) (by omega)
          injection hve with q1 q2 q3
          subst q1; subst q3; clear q2
          have hcell : w41.cell? ⟨gb, ob + f, none⟩ = some (.int .u8 (c.toNat : Int)) := hcm _ _ hbg
          clear hcm hbg
          have hbX : Below w41.heap.size w41 (w41.alloc (.cells #[.int .u8 (c.toNat : Int)] 5)) := (Below.refl _ _).alloc (Nat.le_refl _) _
          have hoX := Lib.hid (HD.out.keep hbX)
          have hsX : Hid (SlR (w41.alloc (.cells #[.int .u8 (c.toNat : Int)] 5)) (.slice (some ⟨w41.heap.size, 0, none⟩) 1 1) 1 1 (bv [c])) := Lib.hid (NewSl.sl (sz := 1) (b0 := 0) (e := 5) (cs := bv [c]) ⟨_, rfl, Nat.zero_le _, Blk.new w41 5 #[.int .u8 (c.toNat : Int)]⟩ rfl (by unfold maxLen; decide))
          have hone := bv_one [c]
          have hwA2 : wA.heap.size ≤ w41.heap.size := Below.size HFA.out
          have hlw : wA.heap.size ≤ (w41.alloc (.cells #[.int .u8 (c.toNat : Int)] 5)).heap.size := Nat.le_trans hwA2 hbX.size
          have hj120 : j ≤ 118 := by have := HT.out; omega
          go_wp2_with (refine Agg.append2 ti25 (.tmp 38) (.tmp 43) rfl rfl wA.heap.size (v := .slice xd (2 + j) cd) rfl hoX.out rfl hsX.out hone (by unfold maxLen; omega) (by omega) hlw (fun v2 w4 hC4 hg4 hwh => ?_); simp only [Act.put, List.setIfInBounds_toArray, List.set_cons_succ, List.set_cons_zero])
          rw [← bv_append, HTK.out] at hC4
          have hb4 := (Below.trans HFA.out (hbX.mono hwA2)).trans (grown_below hg4 hlw (own_block hoX.out))
          exact ⟨⟨j + 1, by omega, by rw [← hf]; go_num, hC4, hb4⟩, by simp [intOf]; omega⟩
        · obtain rfl : j = t := by omega
          have hpl : UInt8.ofNat k :: UInt8.ofNat m :: (B.drop (118 * k)).take j = partL B m k := by
            unfold partL
            congr 2
            rw [List.take_eq_take_min (i := 118), List.length_drop, ← HT.out]
          have hdk := HD.out
          rw [hpl] at hdk
          have hll : (partL B m k).length = 2 + j := by rw [← hpl, List.length_cons, List.length_cons, List.length_take, List.length_drop]; have := HT.out; omega
          have HDK : Hid (Bytes wC (.slice xd (2 + j) cd) (partL B m k)) := Lib.hid (by
            show SlR _ _ 1 _ _
            rw [hll]; exact ownSl hdk)
          have hbok : BOk (layB 2 (partL B m k) (n + k)) := layB_bok' 2 (partL B m k) (n + k) (partL_len B m k) (by omega)
          have HLY := Lib.hid (fun W (v : Value) (hv : Bytes W v (partL B m k)) => rLay_any 2 (partL B m k) (n + k) v W hv ⟨by omega, by omega, partL_len B m k⟩)
          obtain ⟨bl, hbl2⟩ : ∃ y, layB 2 (partL B m k) (n + k) = y := ⟨_, rfl⟩
          have hbs : (rblG n B m k).flatMap blkC ++ blkC bl = (rblG n B m (k + 1)).flatMap blkC := by rw [rblG_succ, List.flatMap_append, hbl2]; simp
          rw [hbl2] at hbok HLY
          have HBS := Lib.hid hbs
          have H132 := Lib.hid (bok_cells hbok)
          have HLIT := Lib.hid (fun W => lit_blk bl hbok W)
          have HADD : Hid (some (IntKind.u64.wrap ((n : Int) + (k : Int))) = some ((n + k : Nat) : Int)) := Lib.hid (by rw [u64_small (by omega) (by omega)]; congr 1)
          clear hpl hdk hll hbok hbl2 hbs HD HFA
          have hj := HT.out
          by_cases h118 : j = 118
          · have l1 : decide (((118 * k + j : Nat) : Int) < 118 * (k : Int) + 118) = false := by simp; omega
            have HL := Lib.hid l1
            clear l1 hj
            obtain ⟨f, hf⟩ : ∃ f, 118 * k + j = f := ⟨_, rfl⟩
            rw [hf] at HL
            rw [hf]
            go_upto_region 8 with (fail)
            refine Agg.listR 11 (by kernel_rfl) ?_
            simp only [List.take_succ_cons, List.take_zero, List.drop_succ_cons, List.drop_zero]
            refine Agg.chMove rfl rfl rfl rfl ?_
            refine Agg.chMove rfl rfl rfl rfl ?_
            refine Agg.chAr64 rfl rfl rfl rfl (by omega) (by omega) rfl rfl ?_
            refine Agg.chAr64 rfl rfl rfl rfl (by omega) (by omega) rfl rfl ?_
            refine Agg.chLt false HL.out rfl rfl rfl rfl rfl ?_
            refine Agg.chMove rfl rfl rfl rfl ?_
            refine Agg.chSkip rfl rfl ?_
            refine Agg.chSkip rfl rfl ?_
            refine Agg.chSkip rfl rfl ?_
            refine Agg.chSkip rfl rfl ?_
            refine Agg.chPick rfl rfl rfl rfl rfl ?_
            refine Agg.chEnd ?_
            intro vs w42 hb _
            show Exit.then _ _ Exit.normal _ _
            simp only [List.reverse, List.reverseAux, Agg.fill, List.set_cons_succ, List.set_cons_zero]
            replace HB := Lib.hid (HB.out.trans (hb.mono HB.out.size))
            replace HDK := Lib.hid (HDK.out.keep hb)
            replace HO := Lib.hid (HO.out.keep hb)
            replace HBY := Lib.hid (HBY.out.keep hb)
            clear hb
            go_upto_region 11 with (fail)
            refine Agg.listR 8 (by kernel_rfl) ?_
            simp only [List.take_succ_cons, List.take_zero, List.drop_succ_cons, List.drop_zero]
            refine Agg.chMove rfl rfl rfl rfl ?_
            refine Agg.chMove rfl rfl rfl rfl ?_
            refine Agg.chBuild (v := .agg #[.int .i64 2, .slice xd (2 + j) cd]) rfl rfl rfl rfl (fun W => build_page' 2 xd (2 + j) cd W) ?_
            refine Agg.chMove rfl rfl rfl rfl ?_
            refine Agg.chMove rfl rfl rfl rfl ?_
            refine Agg.chInt (k : Int) (u64_small (by omega) (by omega)) (by kernel_rfl) Try.underlying29 rfl rfl rfl rfl ?_
            refine Agg.chAr (r := ((n + k : Nat) : Int)) rfl rfl rfl HADD.out rfl rfl ?_
            refine Agg.chCall Try.func41 rfl (by kernel_rfl) rfl rfl rfl rfl (fun W hb => HLY.out W _ (SlR.keep HDK.out hb)) ?_
            refine Agg.chEnd ?_
            intro vs w43 hb _
            simp only [List.reverse, List.reverseAux, Agg.fill, List.set_cons_succ, List.set_cons_zero]
            replace HB := Lib.hid (HB.out.trans (hb.mono HB.out.size))
            replace HDK := Lib.hid (HDK.out.keep hb)
            replace HO := Lib.hid (HO.out.keep hb)
            replace HBY := Lib.hid (HBY.out.keep hb)
            clear hb
            have h132 := H132.out
            have hone := blkC_one bl
            have hbX : Below w43.heap.size w43 (w43.alloc (.cells (blkC bl).toArray 54)) := (Below.refl _ _).alloc (Nat.le_refl _) _
            have hoX := Lib.hid (HO.out.keep hbX)
            have hsX : Hid (SlR (w43.alloc (.cells (blkC bl).toArray 54)) (.slice (some ⟨w43.heap.size, 0, none⟩) 1 1) 132 1 (blkC bl)) := Lib.hid (NewSl.sl (sz := 132) (b0 := 0) (e := 54) (cs := blkC bl) ⟨_, rfl, Nat.zero_le _, Blk.new w43 54 (blkC bl).toArray⟩ (by rw [h132]) (by unfold maxLen; decide))
            have hlw : w.heap.size ≤ (w43.alloc (.cells (blkC bl).toArray 54)).heap.size := Nat.le_trans HB.out.size hbX.size
            go_wp2_with (first
              | (refine Agg.gLit1 (blkC bl) rfl rfl rfl (fun W => HLIT.out W) ?_; simp only [Act.put, List.setIfInBounds_toArray, List.set_cons_succ, List.set_cons_zero])
              | (refine Agg.append2 tiBl (.tmp 45) (.tmp 53) rfl rfl w.heap.size (v := .slice xo k co) rfl hoX.out rfl hsX.out hone (by unfold maxLen; omega) (by omega) hlw (fun v2 w4 hC4 hg4 hwh => ?_); simp only [Act.put, List.setIfInBounds_toArray, List.set_cons_succ, List.set_cons_zero]))
            rw [HBS.out] at hC4
            have hbW := HB.out.trans (hbX.mono HB.out.size)
            have hb4 := hbW.trans (grown_below hg4 hlw (own_block hoX.out))
            exact ⟨⟨k + 1, by omega, by go_num, hC4, hb4⟩, by simp [intOf]; omega⟩
          · skip
            have l1 : decide (((118 * k + j : Nat) : Int) < 118 * (k : Int) + 118) = true := by simp; omega
            have l2 : decide (((118 * k + j : Nat) : Int) < (B.length : Int)) = false := by simp; omega
            have HL := Lib.hid (And.intro l1 l2)
            clear l1 l2 hj
            obtain ⟨f, hf⟩ : ∃ f, 118 * k + j = f := ⟨_, rfl⟩
            rw [hf] at HL
            rw [hf]
            go_upto_region 8 with (fail)
            refine Agg.listR 11 (by kernel_rfl) ?_
            simp only [List.take_succ_cons, List.take_zero, List.drop_succ_cons, List.drop_zero]
            refine Agg.chMove rfl rfl rfl rfl ?_
            refine Agg.chMove rfl rfl rfl rfl ?_
            refine Agg.chAr64 rfl rfl rfl rfl (by omega) (by omega) rfl rfl ?_
            refine Agg.chAr64 rfl rfl rfl rfl (by omega) (by omega) rfl rfl ?_
            refine Agg.chLt true HL.out.1 rfl rfl rfl rfl rfl ?_
            refine Agg.chMove rfl rfl rfl rfl ?_
            refine Agg.chMove rfl rfl rfl rfl ?_
            refine Agg.chMove rfl rfl rfl rfl ?_
            refine Agg.chLen Try.underlying37 rfl rfl rfl rfl ?_
            refine Agg.chLt false HL.out.2 rfl rfl rfl rfl rfl ?_
            refine Agg.chPick rfl rfl rfl rfl rfl ?_
            refine Agg.chEnd ?_
            intro vs w44 hb _
            show Exit.then _ _ Exit.normal _ _
            simp only [List.reverse, List.reverseAux, Agg.fill, List.set_cons_succ, List.set_cons_zero]
            replace HB := Lib.hid (HB.out.trans (hb.mono HB.out.size))
            replace HDK := Lib.hid (HDK.out.keep hb)
            replace HO := Lib.hid (HO.out.keep hb)
            replace HBY := Lib.hid (HBY.out.keep hb)
            clear hb
            go_upto_region 11 with (fail)
            refine Agg.listR 8 (by kernel_rfl) ?_
            simp only [List.take_succ_cons, List.take_zero, List.drop_succ_cons, List.drop_zero]
            refine Agg.chMove rfl rfl rfl rfl ?_
            refine Agg.chMove rfl rfl rfl rfl ?_
            refine Agg.chBuild (v := .agg #[.int .i64 2, .slice xd (2 + j) cd]) rfl rfl rfl rfl (fun W => build_page' 2 xd (2 + j) cd W) ?_
            refine Agg.chMove rfl rfl rfl rfl ?_
            refine Agg.chMove rfl rfl rfl rfl ?_
            refine Agg.chInt (k : Int) (u64_small (by omega) (by omega)) (by kernel_rfl) Try.underlying29 rfl rfl rfl rfl ?_
            refine Agg.chAr (r := ((n + k : Nat) : Int)) rfl rfl rfl HADD.out rfl rfl ?_
            refine Agg.chCall Try.func41 rfl (by kernel_rfl) rfl rfl rfl rfl (fun W hb => HLY.out W _ (SlR.keep HDK.out hb)) ?_
            refine Agg.chEnd ?_
            intro vs w45 hb _
            simp only [List.reverse, List.reverseAux, Agg.fill, List.set_cons_succ, List.set_cons_zero]
            replace HB := Lib.hid (HB.out.trans (hb.mono HB.out.size))
            replace HDK := Lib.hid (HDK.out.keep hb)
            replace HO := Lib.hid (HO.out.keep hb)
            replace HBY := Lib.hid (HBY.out.keep hb)
            clear hb
            have h132 := H132.out
            have hone := blkC_one bl
            have hbX : Below w45.heap.size w45 (w45.alloc (.cells (blkC bl).toArray 54)) := (Below.refl _ _).alloc (Nat.le_refl _) _
            have hoX := Lib.hid (HO.out.keep hbX)
            have hsX : Hid (SlR (w45.alloc (.cells (blkC bl).toArray 54)) (.slice (some ⟨w45.heap.size, 0, none⟩) 1 1) 132 1 (blkC bl)) := Lib.hid (NewSl.sl (sz := 132) (b0 := 0) (e := 54) (cs := blkC bl) ⟨_, rfl, Nat.zero_le _, Blk.new w45 54 (blkC bl).toArray⟩ (by rw [h132]) (by unfold maxLen; decide))
            have hlw : w.heap.size ≤ (w45.alloc (.cells (blkC bl).toArray 54)).heap.size := Nat.le_trans HB.out.size hbX.size
            go_wp2_with (first
              | (refine Agg.gLit1 (blkC bl) rfl rfl rfl (fun W => HLIT.out W) ?_; simp only [Act.put, List.setIfInBounds_toArray, List.set_cons_succ, List.set_cons_zero])
              | (refine Agg.append2 tiBl (.tmp 45) (.tmp 53) rfl rfl w.heap.size (v := .slice xo k co) rfl hoX.out rfl hsX.out hone (by unfold maxLen; omega) (by omega) hlw (fun v2 w4 hC4 hg4 hwh => ?_); simp only [Act.put, List.setIfInBounds_toArray, List.set_cons_succ, List.set_cons_zero]))
            rw [HBS.out] at hC4
            have hbW := HB.out.trans (hbX.mono HB.out.size)
            have hb4 := hbW.trans (grown_below hg4 hlw (own_block hoX.out))
            exact ⟨⟨k + 1, by omega, by go_num, hC4, hb4⟩, by simp [intOf]; omega⟩
    · obtain rfl : k = m := by omega
      go_wp2_with fail
      go_ret
      exact ⟨_, rfl, HO.out, HB.out⟩
end Go.Proofs.Ytlddjcilbpcciaa
end
