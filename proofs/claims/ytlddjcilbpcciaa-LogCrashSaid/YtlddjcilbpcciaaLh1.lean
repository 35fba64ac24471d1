/-
  ROWS OF ONE'S OWN, cell by cell. Over any program.
-/
import Derived.Test.YtlddjcilbpcciaaRow
import Derived.Test.YtlddjcilbpcciaaLhP
import Derived.Test.YtlddjcilbpcciaaLFdDw3
section
namespace Agg
open Go Go.RowKit
theorem ownBlk {w : World} {base : Nat} {e : TypeId} {sz g n cap : Nat} {xs : List Value} (h : w.ownsRow base e sz (.slice (some ⟨g, 0, none⟩) n cap) n xs) : ∃ r, Blk w g e (xs ++ r) ∧ base ≤ g ∧ n ≤ cap ∧ cap ≤ maxLen ∧ (xs ++ r).length = cap * sz := by
  rcases h.2 with ⟨h1, _⟩ | ⟨g', cap', cur, h1, h2, h3, h4, h5, h6, h7⟩
  · cases h1
  · cases h1
    have e : xs ++ cur.toList.drop (n * sz) = cur.toList := by rw [← h7]; exact List.take_append_drop _ _
    refine ⟨cur.toList.drop (n * sz), ?_, h2, h4, h5, ?_⟩
    · rw [e]; simpa [Blk] using h3
    · rw [e]; simpa using h6
theorem blkOwn {w : World} {base : Nat} {e : TypeId} {sz g n cap : Nat} {xs r : List Value} (h : Blk w g e (xs ++ r)) (hb : base ≤ g) (h4 : n ≤ cap) (h5 : cap ≤ maxLen) (h6 : (xs ++ r).length = cap * sz) (hx : xs.length = n * sz) : w.ownsRow base e sz (.slice (some ⟨g, 0, none⟩) n cap) n xs := by
  refine ⟨hx, .inr ⟨g, cap, (xs ++ r).toArray, rfl, hb, h, h4, h5, by simpa using h6, ?_⟩⟩
  simp [← hx]
theorem spliced_set (xs : List Value) (k : Nat) (v : Value) (h : k < xs.length) : spliced xs k [v] = xs.set k v := by
  unfold spliced
  rw [List.set_eq_take_append_cons_drop, if_pos h]
  simp
/-- a row of one's own: where it lies -/
theorem ownPos {w : World} {base : Nat} {e : TypeId} {sz n : Nat} {v : Value} {xs : List Value} (h : w.ownsRow base e sz v n xs) (hn : 0 < n) : ∃ g cap, v = .slice (some ⟨g, 0, none⟩) n cap := by
  rcases h.2 with ⟨_, h1⟩ | ⟨g', cap', cur, h1, h2, h3, h4, h5, h6, h7⟩
  · omega
  · exact ⟨g', cap', h1⟩
variable {P : Program} {Q : Exit → Act → World → Prop} {o : Oper} {w : World} in
/-- a cell of such a row is stored -/
theorem gStoreOwn {ops : Array Oper} {rest : List Oper} {a : Act} {t : TypeId} {x y : Operand} {base : Nat} {e : TypeId} {g n cap : Nat} {xs : List Value} (k : Nat) (v : Value) (H : w.ownsRow base e 1 (.slice (some ⟨g, 0, none⟩) n cap) n xs) (hk : k < n)
    (hg : o.guard = none) (hd : o.dst = none) (ho : o.op = .store t x y) (hx : a.eval x = .pointer (some ⟨g, k, none⟩)) (hy : a.eval y = v)
    (ht : (P.info? t).map (·.size) = some 1) (hv : v.cells.toList = [v]) (h1 : v.oneCell' = true)
    (h : ∀ w', w'.ownsRow base e 1 (.slice (some ⟨g, 0, none⟩) n cap) n (xs.set k v) → w.grownBy w' (some g) → wpList P ops Q rest a w') : wpList P ops Q (o :: rest) a w := by
  obtain ⟨r, hb, h2, h3, h4, h5⟩ := ownBlk H
  have hxl := H.1
  refine gStoreCell k v hb hg hd ho hx hy ht hv (by rw [List.length_append]; omega) h1 (fun w' hb' hg' => h w' ?_ hg')
  rw [spliced_set _ _ _ (by rw [List.length_append]; omega), List.set_append_left _ _ (by omega)] at hb'
  exact blkOwn hb' h2 h3 h4 (by simpa using h5) (by simpa using hxl)
end Agg
end
section
/-
  THE LOG: a device of the least size whose log bears whatever blocks.
-/
namespace Go.Proofs.Ytlddjcilbpcciaa
open Go.ChangeShapes Go.WideShapes Go.ChangeAt Go.RowKit Agg Pg Dv Lg
attribute [local go_sem] Oper.semAt_some

variable {P : Program} {Q : Exit → Act → World → Prop} {o : Oper} {w : World} in
/-- a block is stored into a row of one's own -/
theorem gStorePg {ops : Array Oper} {rest : List Oper} {a : Act} {t : TypeId} {x y : Operand} {base : Nat} {e : TypeId} {g n cap : Nat} {Ps : List (List Sec)} (k : Nat) (b : List Sec) (H : w.ownsRow base e 132 (.slice (some ⟨g, 0, none⟩) n cap) n (Ps.flatMap blkC)) (hP : ∀ b ∈ Ps, BOk b) (hn : Ps.length = n) (hk : k < n) (hb : BOk b)
    (hg : o.guard = none) (hd : o.dst = none) (ho : o.op = .store t x y) (hx : a.eval x = .pointer (some ⟨g, k * 132, none⟩)) (hy : a.eval y = .agg (blkC b).toArray)
    (ht : aggT P t 132 = true)
    (h : ∀ w', w'.ownsRow base e 132 (.slice (some ⟨g, 0, none⟩) n cap) n ((Ps.set k b).flatMap blkC) → w.grownBy w' (some g) → wpList P ops Q rest a w') : wpList P ops Q (o :: rest) a w := by
  obtain ⟨r, hbk, h2, h3, h4, h5⟩ := ownBlk H
  have hxl := H.1
  have hfit : k * 132 + 132 ≤ (Ps.flatMap blkC ++ r).length := by
    rw [List.length_append, hxl]
    have : (k + 1) * 132 ≤ n * 132 := Nat.mul_le_mul_right _ hk
    omega
  refine gStoreMid 132 (k * 132) (blkC b) hbk hg hd ho hx hy ht (bok_cells hb) hfit (blkC_one _) (fun w' hb' hg' => h w' ?_ hg')
  rw [pgs_put Ps hP k (by omega) b hb r] at hb'
  have hl2 : ((Ps.set k b).flatMap blkC).length = n * 132 := by
    rw [flat_len blkC 132 _ (fun b' hb' => bok_cells (set_bok hP hb b' hb')), List.length_set, hn]
  exact blkOwn hb' h2 h3 h4 (by rw [List.length_append, hl2, ← hxl, ← List.length_append]; exact h5) hl2
theorem blank_dev {w : World} {Ps : List (List Sec)} {b c cc : Nat} {x cx : Option Addr} (hl : Ps.length = 24) (hp : w.ownsRow b 54 132 (.slice x 24 c) 24 (Ps.flatMap blkC)) (hc : Wrs w (.slice cx 0 cc) []) : DevR w (.agg #[.slice x 24 c, .slice cx 0 cc, .int .i64 (-1), .bool false]) ⟨Ps, [], -1, false⟩ := by
  refine ⟨x, cx, c, cc, ?_, ?_, hc⟩
  · show _ = Value.agg #[.slice x Ps.length c, .slice cx 0 cc, .int .i64 (-1), .bool false]
    rw [hl]
  · show SlR w (.slice x Ps.length c) 132 Ps.length _
    rw [hl]
    exact ownSl hp
theorem great_one (ub : List Sec) (hb : BOk ub) (g b0 : Nat) (hg : grB [ub] = g) (u : Value) (W : World) (hu : NewSl b0 54 1 (blkC ub) u W) : Calls Try.prog 14 #[u] W fun e w' => e = .returned (.int .u64 (g : Int)) ∧ Below W.heap.size W w' := by
  rw [← hg]
  have h := NewSl.sl (sz := 132) hu (by rw [bok_cells hb]) (by decide)
  refine great_any [ub] (fun b h => by rw [List.mem_singleton.1 h]; exact hb) u W ?_
  show SlR W u 132 1 ([ub].flatMap blkC)
  rw [List.flatMap_cons, List.flatMap_nil, List.append_nil]
  exact h
set_option maxHeartbeats 2000000 in
set_option maxRecDepth 100000 in
theorem blank_any (old : List (List Sec)) (ov : Value) (w : World) (ho : ∀ b ∈ old, BOk b) (hol : old.length ≤ maxLen) (hv : Blks w ov old) :
    Calls Try.prog 25 #[ov] w fun e w' => ∃ v, e = .returned (.tuple #[v, .bool true]) ∧ DevR w' v (blankD old) ∧ Below w.heap.size w w' := by
  obtain ⟨ox, oc, rfl, hoc, hom⟩ := SlR.shape hv
  replace hol : old.length ≤ 9223372036854775807 := hol
  replace hom : oc ≤ 9223372036854775807 := hom
  have HV0 := Lib.hid hv
  obtain ⟨P0, hP0⟩ : ∃ P, (newD 24).pages = P := ⟨_, rfl⟩
  obtain ⟨R, hR⟩ : ∃ R, blankD old = R := ⟨_, rfl⟩
  have hR2 : (⟨blkP old 0 P0, [], -1, false⟩ : Dev) = R := by rw [← hR, ← hP0]; rfl
  have hpl : P0.length = 24 := by rw [← hP0]; exact newD_fresh.len
  have hpo : ∀ b ∈ P0, BOk b := by rw [← hP0]; exact newD_fresh.good.pages
  have HN : Hid (∀ W, Calls Try.prog 31 #[.int .i64 24] W fun e w' => ∃ p c, e = .returned (.tuple #[.agg #[p, c, .int .i64 (-1), .bool false], .int .i64 0]) ∧ w'.ownsRow W.heap.size 54 132 p 24 (P0.flatMap blkC) ∧ Wrs w' c [] ∧ Below W.heap.size W w') := Lib.hid (fun W => (new_R 24 (by decide) (by decide) W).mono (by
    rintro e w2 ⟨u, rfl, ⟨p, c, rfl, h1, h2⟩, h3⟩
    rw [hP0, hpl] at h1
    exact ⟨p, c, rfl, h1, ownSl h2, h3⟩))
  have HR := Lib.hid hR2
  have HP0 := Lib.hid (And.intro hpl hpo)
  have HO := Lib.hid ho
  rw [hR]
  clear hP0 hR hR2 hpl hpo ho hv
  have HB := Lib.hid (Below.refl w.heap.size w)
  go_enter Try.func25, Try.ntmps25
  go_upto_region 1 with (refine Agg.allocRow 28 #[.slice none 0 0, .slice none 0 0, .int .i64 0, .bool false] rfl rfl (by kernel_rfl) ?_; simp only [Act.put, List.setIfInBounds_toArray, List.set_cons_succ, List.set_cons_zero])
  refine Agg.wp_at fun w1 hw1 => ?_
  have hb : Below w.heap.size w w1 := by rw [hw1.out]; repeat (first | exact Below.refl _ _ | refine Agg.bel_drew ?_ | refine Agg.bel_alloc ?_ _)
  replace HB := Lib.hid (HB.out.trans (hb.mono HB.out.size))
  clear hb
  have H2 : Hid (Blk w1 w.heap.size 28 [.slice none 0 0, .slice none 0 0, .int .i64 0, .bool false]) := by show Blk _ _ _ _; rw [hw1.out]; exact Blk.new w 28 #[.slice none 0 0, .slice none 0 0, .int .i64 0, .bool false]
  clear hw1
  go_wp2_with fail
  have hl1 : w.heap.size + 1 ≤ w1.heap.size := H2.out.lt
  refine (HN.out w1).mono ?_
  rintro e w2 ⟨p, c, rfl, hp, hc, hb⟩
  replace HB := Lib.hid (HB.out.trans (hb.mono HB.out.size))
  replace H2 := Lib.hid (H2.out.keep hb)
  clear hb
  obtain ⟨pb, pcap, rfl⟩ := ownPos hp (by decide)
  obtain ⟨cx, cc, rfl, _, _⟩ := SlR.shape hc
  have HP := Lib.hid (own_base hp hl1)
  have HC := Lib.hid hc
  clear hp hc hl1
  have hlt2 := H2.out.lt
  go_upto_region 2 with (first
    | (refine Agg.allocRow 28 #[.slice none 0 0, .slice none 0 0, .int .i64 0, .bool false] rfl rfl (by kernel_rfl) ?_; simp only [Act.put, List.setIfInBounds_toArray, List.set_cons_succ, List.set_cons_zero])
    | (refine Agg.gStoreNew 4 [.slice (some ⟨pb, 0, none⟩) 24 pcap, .slice cx 0 cc, .int .i64 (-1), .bool false] rfl rfl rfl rfl rfl rfl (by decide +kernel) rfl rfl (by simp [Value.oneCell']) ?_; simp only [Act.put]))
  refine Agg.wp_at fun w3 hw3 => ?_
  have hb : Below w2.heap.size w2 w3 := by rw [hw3.out]; repeat (first | exact Below.refl _ _ | refine Agg.bel_drew ?_ | refine Agg.bel_alloc ?_ _)
  replace HB := Lib.hid (HB.out.trans (hb.mono HB.out.size))
  replace H2 := Lib.hid (H2.out.keep hb)
  replace HP := Lib.hid (HP.out.keep hb)
  replace HC := Lib.hid (HC.out.keep hb)
  clear hb
  have H4 : Hid (Blk w3 w2.heap.size 28 [.slice (some ⟨pb, 0, none⟩) 24 pcap, .slice cx 0 cc, .int .i64 (-1), .bool false]) := by show Blk _ _ _ _; rw [hw3.out]; exact Blk.new w2 28 #[.slice (some ⟨pb, 0, none⟩) 24 pcap, .slice cx 0 cc, .int .i64 (-1), .bool false]
  have HNE : Hid (w.heap.size ≠ w2.heap.size) := Lib.hid (by omega)
  have HLE : Hid (w.heap.size + 1 ≤ w2.heap.size) := Lib.hid (by omega)
  clear hlt2 hw3
  generalize w2.heap.size = g4 at *
  refine Agg.listR 8 (by kernel_rfl) ?_
  simp only [List.take_succ_cons, List.take_zero, List.drop_succ_cons, List.drop_zero]
  refine Agg.chMove rfl rfl rfl rfl ?_
  refine Agg.chNe false (by decide) rfl rfl rfl rfl rfl ?_
  refine Agg.chMove rfl rfl rfl rfl ?_
  refine Agg.chFA (by first | exact fo_Lo_0 | exact fo_fo_Dev_0) rfl rfl rfl rfl ?_
  refine Agg.chLoadB H4.out (by decide +kernel) rfl rfl (by rfl) rfl rfl ?_
  refine Agg.chLen Try.underlying25 rfl rfl rfl rfl ?_
  refine Agg.chNe false (by decide) rfl rfl rfl rfl rfl ?_
  refine Agg.chPick rfl rfl rfl rfl rfl ?_
  refine Agg.chEnd ?_
  intro vs w4 hb _
  show Exit.then _ _ Exit.normal _ _
  simp only [List.reverse, List.reverseAux, Agg.fill, List.set_cons_succ, List.set_cons_zero]
  replace HB := Lib.hid (HB.out.trans (hb.mono HB.out.size))
  replace H2 := Lib.hid (H2.out.keep hb)
  replace HP := Lib.hid (HP.out.keep hb)
  replace HC := Lib.hid (HC.out.keep hb)
  replace H4 := Lib.hid (H4.out.keep hb)
  clear hb
  go_wp2_with fail
  obtain ⟨wZ, hwZ⟩ : ∃ x, x = w4 := ⟨_, rfl⟩
  subst hwZ
  go_loopw [23, 6, 7] (fun ix s6 s7 wr => ∃ (k : Nat) (Ps : List (List Sec)), k ≤ old.length ∧ k ≤ 16 ∧ ix = .int .i64 k ∧ Blk wr w.heap.size 28 [.slice none 0 0, .slice none 0 0, .int .i64 0, .bool false] ∧ wr.ownsRow (w.heap.size + 1) 54 132 (.slice (some ⟨pb, 0, none⟩) 24 pcap) 24 (Ps.flatMap blkC) ∧ Wrs wr (.slice cx 0 cc) [] ∧ Blk wr g4 28 [.slice (some ⟨pb, 0, none⟩) 24 pcap, .slice cx 0 cc, .int .i64 (-1), .bool false] ∧ Below w.heap.size w wr ∧ Ps.length = 24 ∧ (∀ b ∈ Ps, BOk b) ∧ (⟨blkP (old.drop k) k Ps, [], -1, false⟩ : Dev) = R) (fun ix _ _ _ => old.length - (intOf ix).toNat)
  case atStart => exact ⟨0, P0, by omega, by omega, rfl, H2.out, HP.out, HC.out, H4.out, HB.out, HP0.out.1, HP0.out.2, by rw [List.drop_zero]; exact HR.out⟩
  case round =>
    clear H2 HP HC H4 HB HR HP0
    obtain ⟨k, Ps, hk, hk16, rfl, h2, hp, hc, h4, hb, hpl, hpo, hr⟩ := hrel
    have H2 := Lib.hid h2
    have HP := Lib.hid hp
    have HC := Lib.hid hc
    have H4 := Lib.hid h4
    have HB := Lib.hid hb
    have HPO := Lib.hid (And.intro hpl hpo)
    have HR := Lib.hid hr
    clear h2 hp hc h4 hb hpl hpo hr
    obtain ⟨wA, hwA⟩ : ∃ x, x = wr := ⟨_, rfl⟩
    subst hwA
    by_cases hlt : k < old.length
    · obtain ⟨ob, oo, oc', hve, _, _, _, _⟩ := SlR.pos HV0.out (by decide) (by omega)
      simp only [Value.slice.injEq, true_and] at hve
      obtain ⟨rfl, rfl⟩ := hve
      have hcs := flat_at blkC 132 (by decide) (SlR.keep HV0.out HB.out) (fun b hb => bok_cells (HO.out b hb)) hlt
      have hbo := HO.out _ (List.getElem_mem hlt)
      have hbc := bok_cells hbo
      have h1 := blkC_one old[k]
      have hr := HR.out
      rw [List.drop_eq_getElem_cons hlt, blkP] at hr
      generalize old[k] = ub at *
      go_upto_region 7 with (first
        | (refine Agg.gLoad 132 (blkC ub) rfl rfl rfl (by decide +kernel) hbc hcs ?_; simp only [Act.put, List.setIfInBounds_toArray, List.set_cons_succ, List.set_cons_zero])
        | (refine Agg.allocRow 54 (blkC zeroB).toArray rfl rfl (by kernel_rfl) ?_; simp only [Act.put, List.setIfInBounds_toArray, List.set_cons_succ, List.set_cons_zero])
        | (refine Agg.gStoreNew 132 (blkC ub) rfl rfl rfl rfl rfl rfl (by decide +kernel) hbc zero132 h1 ?_; simp only [Act.put]))
      refine Agg.wp_at fun w41 hw41 => ?_
      have hb : Below wA.heap.size wA w41 := by rw [hw41.out]; repeat (first | exact Below.refl _ _ | refine Agg.bel_drew ?_ | refine Agg.bel_alloc ?_ _)
      replace HB := Lib.hid (HB.out.trans (hb.mono HB.out.size))
      replace H2 := Lib.hid (H2.out.keep hb)
      replace HP := Lib.hid (HP.out.keep hb)
      replace HC := Lib.hid (HC.out.keep hb)
      replace H4 := Lib.hid (H4.out.keep hb)
      clear hb
      have H7 : Hid (Blk w41 wA.heap.size 54 (blkC ub)) := by show Blk _ _ _ _; rw [hw41.out]; exact Blk.new wA 54 (blkC ub).toArray
      clear hw41
      generalize wA.heap.size = g7 at *
      have HBO := Lib.hid hbo
      have HBC := Lib.hid hbc
      have HRR := Lib.hid hr
      clear hcs hbo hbc h1 hr HR HV0
      by_cases h16 : k = 16
      · have hr := HRR.out
        rw [if_pos (.inl h16)] at hr
        have h16b : ((k : Int) == 16) = true := by simp [h16]
        refine Agg.listR 8 (by kernel_rfl) ?_
        simp only [List.take_succ_cons, List.take_zero, List.drop_succ_cons, List.drop_zero]
        refine Agg.chMove rfl rfl rfl rfl ?_
        refine Agg.chEq true h16b rfl rfl rfl rfl rfl ?_
        refine Agg.chMove rfl rfl rfl rfl ?_
        refine Agg.chSkip rfl rfl ?_
        refine Agg.chSkip rfl rfl ?_
        refine Agg.chSkip rfl rfl ?_
        refine Agg.chSkip rfl rfl ?_
        refine Agg.chPick rfl rfl rfl rfl rfl ?_
        refine Agg.chEnd ?_
        intro vs w42 hb _
        show Exit.then _ _ Exit.normal _ _
        simp only [List.reverse, List.reverseAux, Agg.fill, List.set_cons_succ, List.set_cons_zero]
        replace HB := Lib.hid (HB.out.trans (hb.mono HB.out.size))
        replace H2 := Lib.hid (H2.out.keep hb)
        replace HP := Lib.hid (HP.out.keep hb)
        replace HC := Lib.hid (HC.out.keep hb)
        replace H4 := Lib.hid (H4.out.keep hb)
        replace H7 := Lib.hid (H7.out.keep hb)
        clear hb
        clear h16b
        have h2 := H2.out
        have h4 := H4.out
        go_wp2_with (first
          | (refine Agg.gLoadB 4 h4 rfl rfl rfl rfl (by decide +kernel) ?_; simp only [Act.put, List.setIfInBounds_toArray, List.set_cons_succ, List.set_cons_zero])
          | (refine Agg.gStoreB 4 [.slice (some ⟨pb, 0, none⟩) 24 pcap, .slice cx 0 cc, .int .i64 (-1), .bool false] h2 rfl rfl rfl rfl rfl (by decide +kernel) rfl rfl (by simp [Value.oneCell']) (fun w90 hb90 hg90 => ?_)))
        refine bodyPost_ret (results_row2 (m := 4) rfl hb90 rfl (by decide +kernel) rfl) rfl ⟨_, rfl, ?_, HB.out.trans (grown_below hg90 HB.out.size (fun j hj => by cases hj; omega))⟩
        rw [← hr]
        exact blank_dev HPO.out.1 (HP.out.kept hg90 (own_off HP.out (by omega))) (SlR.far HC.out h2 (fun i u h => by simp at h) hg90)
      · skip
        have h16b : ((k : Int) == 16) = false := beq_false_of_ne (by omega)
        obtain ⟨gr, hgr⟩ : ∃ g, grB [ub] = g := ⟨_, rfl⟩
        have HGR := Lib.hid hgr
        by_cases hgx : 1152921504606846976 < gr
        · have hr := HRR.out
          rw [hgr, if_pos (.inr hgx)] at hr
          clear hgr
          have hgb : decide ((gr : Int) > 1152921504606846976) = true := by simp; omega
          refine Agg.listR 8 (by kernel_rfl) ?_
          simp only [List.take_succ_cons, List.take_zero, List.drop_succ_cons, List.drop_zero]
          refine Agg.chMove rfl rfl rfl rfl ?_
          refine Agg.chEq false h16b rfl rfl rfl rfl rfl ?_
          refine Agg.chMove rfl rfl rfl rfl ?_
          refine Agg.chRowB 132 H7.out HBC.out (by decide +kernel) rfl rfl rfl rfl ?_
          refine Agg.chBuildSlice (e := 54) (blkC ub).toArray rfl rfl rfl rfl (fun W => lit_blk ub HBO.out W) ?_
          refine Agg.chCall1 Try.func14 rfl (by kernel_rfl) (.int .u64 (gr : Int)) 4 rfl rfl rfl rfl rfl rfl (fun u W hb hu => great_one ub HBO.out gr _ HGR.out u W hu) ?_
          refine Agg.chGt true hgb rfl rfl rfl rfl rfl ?_
          refine Agg.chPick rfl rfl rfl rfl rfl ?_
          refine Agg.chEnd ?_
          intro vs w43 hb _
          show Exit.then _ _ Exit.normal _ _
          simp only [List.reverse, List.reverseAux, Agg.fill, List.set_cons_succ, List.set_cons_zero]
          replace HB := Lib.hid (HB.out.trans (hb.mono HB.out.size))
          replace H2 := Lib.hid (H2.out.keep hb)
          replace HP := Lib.hid (HP.out.keep hb)
          replace HC := Lib.hid (HC.out.keep hb)
          replace H4 := Lib.hid (H4.out.keep hb)
          replace H7 := Lib.hid (H7.out.keep hb)
          clear hb
          clear h16b hgb
          have h2 := H2.out
          have h4 := H4.out
          go_wp2_with (first
            | (refine Agg.gLoadB 4 h4 rfl rfl rfl rfl (by decide +kernel) ?_; simp only [Act.put, List.setIfInBounds_toArray, List.set_cons_succ, List.set_cons_zero])
            | (refine Agg.gStoreB 4 [.slice (some ⟨pb, 0, none⟩) 24 pcap, .slice cx 0 cc, .int .i64 (-1), .bool false] h2 rfl rfl rfl rfl rfl (by decide +kernel) rfl rfl (by simp [Value.oneCell']) (fun w90 hb90 hg90 => ?_)))
          refine bodyPost_ret (results_row2 (m := 4) rfl hb90 rfl (by decide +kernel) rfl) rfl ⟨_, rfl, ?_, HB.out.trans (grown_below hg90 HB.out.size (fun j hj => by cases hj; omega))⟩
          rw [← hr]
          exact blank_dev HPO.out.1 (HP.out.kept hg90 (own_off HP.out (by omega))) (SlR.far HC.out h2 (fun i u h => by simp at h) hg90)
        · skip
          have hr := HRR.out
          rw [hgr, if_neg (by omega)] at hr
          have HR2 := Lib.hid hr
          clear hgr HRR hr
          have hgb : decide ((gr : Int) > 1152921504606846976) = false := by simp; omega
          refine Agg.listR 8 (by kernel_rfl) ?_
          simp only [List.take_succ_cons, List.take_zero, List.drop_succ_cons, List.drop_zero]
          refine Agg.chMove rfl rfl rfl rfl ?_
          refine Agg.chEq false h16b rfl rfl rfl rfl rfl ?_
          refine Agg.chMove rfl rfl rfl rfl ?_
          refine Agg.chRowB 132 H7.out HBC.out (by decide +kernel) rfl rfl rfl rfl ?_
          refine Agg.chBuildSlice (e := 54) (blkC ub).toArray rfl rfl rfl rfl (fun W => lit_blk ub HBO.out W) ?_
          refine Agg.chCall1 Try.func14 rfl (by kernel_rfl) (.int .u64 (gr : Int)) 4 rfl rfl rfl rfl rfl rfl (fun u W hb hu => great_one ub HBO.out gr _ HGR.out u W hu) ?_
          refine Agg.chGt false hgb rfl rfl rfl rfl rfl ?_
          refine Agg.chPick rfl rfl rfl rfl rfl ?_
          refine Agg.chEnd ?_
          intro vs w44 hb _
          show Exit.then _ _ Exit.normal _ _
          simp only [List.reverse, List.reverseAux, Agg.fill, List.set_cons_succ, List.set_cons_zero]
          replace HB := Lib.hid (HB.out.trans (hb.mono HB.out.size))
          replace H2 := Lib.hid (H2.out.keep hb)
          replace HP := Lib.hid (HP.out.keep hb)
          replace HC := Lib.hid (HC.out.keep hb)
          replace H4 := Lib.hid (H4.out.keep hb)
          replace H7 := Lib.hid (H7.out.keep hb)
          clear hb
          clear h16b hgb
          go_upto_region 8 with (fail)
          refine Agg.listR 6 (by kernel_rfl) ?_
          simp only [List.take_succ_cons, List.take_zero, List.drop_succ_cons, List.drop_zero]
          refine Agg.chFA (by first | exact fo_Lo_0 | exact fo_fo_Dev_0) rfl rfl rfl rfl ?_
          refine Agg.chLoadB H4.out (by decide +kernel) rfl rfl (by rfl) rfl rfl ?_
          refine Agg.chMove rfl rfl rfl rfl ?_
          refine Agg.chAr64 (r := ((2 + k : Nat) : Int)) rfl rfl rfl (by simp) (by omega) (by omega) rfl rfl ?_
          refine Agg.chRowB 132 H7.out HBC.out (by decide +kernel) rfl rfl rfl rfl ?_
          refine Agg.chIA tiBl (by omega) (by omega) rfl rfl rfl rfl rfl ?_
          refine Agg.chEnd ?_
          intro vs w45 hb _
          simp only [List.reverse, List.reverseAux, Agg.fill, List.set_cons_succ, List.set_cons_zero]
          replace HB := Lib.hid (HB.out.trans (hb.mono HB.out.size))
          replace H2 := Lib.hid (H2.out.keep hb)
          replace HP := Lib.hid (HP.out.keep hb)
          replace HC := Lib.hid (HC.out.keep hb)
          replace H4 := Lib.hid (H4.out.keep hb)
          replace H7 := Lib.hid (H7.out.keep hb)
          clear hb
          simp only [Nat.zero_add]
          have hpw : w.heap.size + 1 ≤ pb := by obtain ⟨_, _, h, _⟩ := ownBlk HP.out; exact h
          have hpd : pb ≠ g4 := by obtain ⟨_, h, _⟩ := ownBlk HP.out; exact blk_ne h H4.out (by decide)
          obtain ⟨pr, hpr, _⟩ := ownBlk HP.out
          refine gStorePg (2 + k) ub HP.out HPO.out.2 HPO.out.1 (by omega) HBO.out rfl rfl rfl rfl rfl (by decide +kernel) (fun w80 hp80 hg80 => ?_)
          have X1 := Lib.hid (H2.out.far' hg80 (show w.heap.size ≠ pb by omega))
          have X2 := Lib.hid hp80
          have X3 := Lib.hid (SlR.far HC.out hpr (fun i u h => by simp at h) hg80)
          have X4 := Lib.hid (H4.out.far' hg80 (Ne.symm hpd))
          have X5 := Lib.hid (HB.out.trans (grown_below hg80 HB.out.size (fun j hj => by cases hj; omega)))
          have X6 := Lib.hid (And.intro (show (Ps.set (2 + k) ub).length = 24 by rw [List.length_set]; exact HPO.out.1) (set_bok HPO.out.2 HBO.out (k := 2 + k)))
          clear hp80 hg80 hpr H2 HP HC H4 HB HPO HBO H7 HBC
          go_wp2_with fail
          refine ⟨?_, by simp [intOf]; omega⟩
          exact ⟨_, _, _, ⟨k + 1, by omega, by omega, by go_num, X1.out, Ps.set (2 + k) ub, X2.out, X3.out, X4.out, X5.out, X6.out.1, X6.out.2, HR2.out⟩, rfl, rfl, rfl⟩
    · obtain rfl : k = old.length := by omega
      have hr := HR.out
      rw [List.drop_length, blkP] at hr
      have h2 := H2.out
      have h4 := H4.out
      go_wp2_with (first
        | (refine Agg.gLoadB 4 h4 rfl rfl rfl rfl (by decide +kernel) ?_; simp only [Act.put, List.setIfInBounds_toArray, List.set_cons_succ, List.set_cons_zero])
        | (refine Agg.gStoreB 4 [.slice (some ⟨pb, 0, none⟩) 24 pcap, .slice cx 0 cc, .int .i64 (-1), .bool false] h2 rfl rfl rfl rfl rfl (by decide +kernel) rfl rfl (by simp [Value.oneCell']) (fun w90 hb90 hg90 => ?_)))
      refine bodyPost_ret (results_row2 (m := 4) rfl hb90 rfl (by decide +kernel) rfl) rfl ⟨_, rfl, ?_, HB.out.trans (grown_below hg90 HB.out.size (fun j hj => by cases hj; omega))⟩
      rw [← hr]
      exact blank_dev HPO.out.1 (HP.out.kept hg90 (own_off HP.out (by omega))) (SlR.far HC.out h2 (fun i u h => by simp at h) hg90)
end Go.Proofs.Ytlddjcilbpcciaa
end
