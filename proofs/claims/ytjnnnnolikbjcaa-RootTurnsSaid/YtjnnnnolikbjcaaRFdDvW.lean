/-
  DEVICES: Read.
-/
import Derived.Test.YtjnnnnolikbjcaaRFdDvN
section
namespace Go.Proofs.Ytjnnnnolikbjcaa
open Go.ChangeShapes Go.WideShapes Go.ChangeAt Go.RowKit Agg Pg Dv
attribute [local go_sem] Oper.semAt_some

/-- what a page says -/
def saysP (P : List (List Sec)) (l : List (Int × List Sec)) (k : Int) : List Sec := ((ofPage k l).getLast?).getD (P.getD k.toNat zeroB)
def readP (d : Dev) (k : Int) : Int × List Sec := if rightD d = false then (260, zeroB) else if d.off then (10, zeroB) else if thereB d.pages.length k = false then (4, zeroB) else (0, saysP d.pages d.cache k)
theorem ofPage_rev (k : Int) (l : List (Int × List Sec)) : ofPage k l.reverse = (ofPage k l).reverse := by simp [ofPage]
theorem zero_blk (w : World) : (Instr.build 38 #[]).run Try.prog w = .ok (.agg (blkC zeroB).toArray) w := by kernel_rfl
set_option maxHeartbeats 1000000 in
theorem backwards_any (p c z q : Value) (k : Int) (w : World) :
    Calls Try.prog 82 #[.agg #[p, c, z, q], .int .i64 k] w fun e w' => e = .returned (.func (.func 89) #[] #[.pointer (some ⟨w.heap.size, 0, none⟩), .pointer (some ⟨w.heap.size + 1, 0, none⟩)]) ∧ Blk w' w.heap.size 30 [p, c, z, q] ∧ Blk w' (w.heap.size + 1) 3 [.int .i64 k] ∧ Below w.heap.size w w' := by
  have HB := Lib.hid (Below.refl w.heap.size w)
  go_enter Try.func82, Try.ntmps82
  go_wp2_with fail
  go_ret
  exact ⟨rfl, (Blk.new w 30 #[p, c, z, q]).al _, Blk.newAt (w.alloc _) 3 #[.int .i64 k] _ (by simp), bel_alloc (bel_alloc HB.out _) _⟩
set_option maxHeartbeats 4000000 in
set_option maxRecDepth 100000 in
theorem read_any (P : List (List Sec)) (l : List (Int × List Sec)) (z : Int) (q : Bool) (x y : Option Addr) (cap cm : Nat) (k : Int) (w : World)
    (hd1 : P.length ≤ 1000000) (hd2 : l.length ≤ 1000000) (hp : Pgs w (.slice x P.length cap) P) (hv : Wrs w (.slice y l.length cm) l) (hP : ∀ b ∈ P, BOk b) (hC : ∀ x ∈ l, BOk x.2) :
    Calls Try.prog 70 #[.agg #[.slice x P.length cap, .slice y l.length cm, .int .i64 z, .bool q], .int .i64 k] w fun e w' => e = .returned (.tuple #[.agg (blkC (readP ⟨P, l, z, q⟩ k).2).toArray, .int .i64 (readP ⟨P, l, z, q⟩ k).1]) ∧ Below w.heap.size w w' := by
  have HP := Lib.hid hp
  have HV := Lib.hid hv
  have HPB := Lib.hid hP
  have HCB := Lib.hid hC
  have HD1 := Lib.hid hd1
  have HD2 := Lib.hid hd2
  have HPN : Hid ((P.length : Int) ≤ 9223372036854775807) := Lib.hid (by omega)
  obtain ⟨rd, hrd⟩ : ∃ b, rightD ⟨P, l, z, q⟩ = b := ⟨_, rfl⟩
  have HRD := Lib.hid hrd
  obtain ⟨ee, hee⟩ : ∃ e, (if headD P.length z q && allD P.length l then (0 : Int) else 260) = e := ⟨_, rfl⟩
  have HEE := Lib.hid hee
  have HE2 : Hid (ee = if rd then 0 else 260) := Lib.hid (by rw [← hee, ← hrd, rightD_eq])
  obtain ⟨th, hth⟩ : ∃ b, thereB P.length k = b := ⟨_, rfl⟩
  have HTH := Lib.hid hth
  obtain ⟨g, hg⟩ : ∃ g, readP ⟨P, l, z, q⟩ k = g := ⟨_, rfl⟩
  rw [hg]
  have HG := Lib.hid hg
  clear hp hv hP hC hd1 hd2 hrd hee hth hg
  have HB := Lib.hid (Below.refl w.heap.size w)
  refine Agg.calls_of_marks Try.func70 rfl ?_
  simp only [Try.ntmps70, List.size_toArray, List.length_cons, List.length_nil, Nat.reduceAdd, Nat.reduceSub, Array.replicate_succ, Array.replicate_zero, List.push_toArray, List.append_toArray, List.nil_append, List.cons_append]
  go_upto_region 1 with (refine Agg.allocRow 38 (blkC zeroB).toArray rfl rfl (by kernel_rfl) ?_; simp only [Act.put, List.setIfInBounds_toArray, List.set_cons_succ, List.set_cons_zero])
  refine Agg.wp_at fun w1 hw1 => ?_
  have hb : Below w.heap.size w w1 := by rw [hw1.out]; repeat (first | exact Below.refl _ _ | refine Agg.bel_drew ?_ | refine Agg.bel_alloc ?_ _)
  replace HB := Lib.hid (HB.out.trans (hb.mono HB.out.size))
  replace HP := Lib.hid (HP.out.keep hb)
  replace HV := Lib.hid (HV.out.keep hb)
  clear hb
  have H1 : Hid (Blk w1 w.heap.size 30 [.slice x P.length cap, .slice y l.length cm, .int .i64 z, .bool q]) := by show Blk _ _ _ _; rw [hw1.out]; exact (Blk.new w 30 #[.slice x P.length cap, .slice y l.length cm, .int .i64 z, .bool q]).al _
  have H2 : Hid (Blk w1 (w.heap.size + 1) 38 (blkC zeroB)) := by show Blk _ _ _ _; rw [hw1.out]; exact Blk.newAt (w.alloc _) 38 (blkC zeroB).toArray _ (by simp)
  clear hw1
  have xH1_0 := H1.out.cell 0
  have xH1_1 := H1.out.cell 1
  have xH1_2 := H1.out.cell 2
  have xH1_3 := H1.out.cell 3
  have lH1 := H1.out.lt
  simp only [List.getElem?_cons_zero, List.getElem?_cons_succ] at xH1_0 xH1_1 xH1_2 xH1_3
  refine wp_scope_straight ?_
  go_wp2_with fail
  clear xH1_0 xH1_1 xH1_2 xH1_3 lH1
  refine (check_D x y P.length cap cm l z q w1 HPN.out HCB.out HV.out ee HEE.out).mono ?_
  rintro e w2 ⟨rfl, hb⟩
  replace HB := Lib.hid (HB.out.trans (hb.mono HB.out.size))
  replace HP := Lib.hid (HP.out.keep hb)
  replace HV := Lib.hid (HV.out.keep hb)
  replace H1 := Lib.hid (H1.out.keep hb)
  replace H2 := Lib.hid (H2.out.keep hb)
  clear hb
  have l2 := H2.out.lt
  have hsz := HB.out.size
  have h2 := H2.out
  cases rd
  · have hee : ee = 260 := HE2.out
    subst hee
    have hg := HG.out
    rw [readP, if_pos HRD.out] at hg
    subst hg
    go_wp2_with (first
      | (refine Agg.gBuild0 (.agg (blkC zeroB).toArray) rfl rfl (fun W => zero_blk W) ?_; simp only [Act.put, List.setIfInBounds_toArray, List.set_cons_succ, List.set_cons_zero])
      | (refine Agg.gStoreB 132 (blkC zeroB) h2 rfl rfl rfl rfl rfl (by decide +kernel) zero132 zero132 (blkC_one _) (fun w14 hb14 hg14 => ?_)))
    refine Agg.marks_ret0 (results_row2 (m := 132) rfl hb14 rfl (by decide +kernel) zero132) ⟨rfl, ?_⟩
    exact HB.out.trans (grown_below hg14 HB.out.size (fun j hj => (by cases hj; omega)))
  · have hee : ee = 0 := HE2.out
    subst hee
    have hg := HG.out
    rw [readP, if_neg (by rw [HRD.out]; decide)] at hg
    clear HG HEE HE2
    have xH1_0 := H1.out.cell 0
    have xH1_1 := H1.out.cell 1
    have xH1_2 := H1.out.cell 2
    have xH1_3 := H1.out.cell 3
    have lH1 := H1.out.lt
    simp only [List.getElem?_cons_zero, List.getElem?_cons_succ] at xH1_0 xH1_1 xH1_2 xH1_3
    cases q
    · rw [if_neg (Bool.false_ne_true)] at hg
      go_wp2_with fail
      clear xH1_0 xH1_1 xH1_2 xH1_3 lH1
      refine (there_any x y P.length cap l.length cm z false k w2 HPN.out th HTH.out).mono ?_
      rintro e w3 ⟨rfl, hb⟩
      replace HB := Lib.hid (HB.out.trans (hb.mono HB.out.size))
      replace HP := Lib.hid (HP.out.keep hb)
      replace HV := Lib.hid (HV.out.keep hb)
      replace H1 := Lib.hid (H1.out.keep hb)
      replace H2 := Lib.hid (H2.out.keep hb)
      clear hb
      have xH1_0 := H1.out.cell 0
      have xH1_1 := H1.out.cell 1
      have xH1_2 := H1.out.cell 2
      have xH1_3 := H1.out.cell 3
      have lH1 := H1.out.lt
      simp only [List.getElem?_cons_zero, List.getElem?_cons_succ] at xH1_0 xH1_1 xH1_2 xH1_3
      cases th
      · rw [if_pos HTH.out] at hg
        subst hg
        have h2 := H2.out
        go_wp2_with (first
          | (refine Agg.gBuild0 (.agg (blkC zeroB).toArray) rfl rfl (fun W => zero_blk W) ?_; simp only [Act.put, List.setIfInBounds_toArray, List.set_cons_succ, List.set_cons_zero])
          | (refine Agg.gStoreB 132 (blkC zeroB) h2 rfl rfl rfl rfl rfl (by decide +kernel) zero132 zero132 (blkC_one _) (fun w14 hb14 hg14 => ?_)))
        refine Agg.marks_ret0 (results_row2 (m := 132) rfl hb14 rfl (by decide +kernel) zero132) ⟨rfl, ?_⟩
        exact HB.out.trans (grown_below hg14 HB.out.size (fun j hj => (by cases hj; omega)))
      · rw [if_neg (by rw [HTH.out]; decide)] at hg
        obtain ⟨p, hp1, hp2⟩ := there_nat HTH.out
        subst hp1
        have hpl : (p : Int) < P.length := by omega
        obtain ⟨b, o, cap', hve, _, _, _, _⟩ := SlR.pos HP.out (by decide) (by omega)
        simp only [Value.slice.injEq, true_and] at hve
        obtain ⟨rfl, rfl⟩ := hve
        have hcs := flat_at blkC 132 (by decide) HP.out (fun b hb => bok_cells (HPB.out b hb)) hp2
        have hbo := HPB.out _ (List.getElem_mem hp2)
        have h132 := bok_cells hbo
        have h1 := blkC_one P[p]
        have HGP : Hid (P.getD p zeroB = P[p]) := Lib.hid (by rw [List.getD_eq_getElem?_getD, List.getElem?_eq_getElem hp2]; rfl)
        generalize P[p] = s at *
        go_upto_region 8 with (first
          | (refine Agg.gLoad 132 (blkC s) rfl rfl rfl (by decide +kernel) h132 hcs ?_; simp only [Act.put, List.setIfInBounds_toArray, List.set_cons_succ, List.set_cons_zero])
          | (refine Agg.allocRow 38 (blkC zeroB).toArray rfl rfl (by kernel_rfl) ?_; simp only [Act.put, List.setIfInBounds_toArray, List.set_cons_succ, List.set_cons_zero])
          | (refine Agg.gStoreNew 132 (blkC s) rfl rfl rfl rfl rfl rfl (by decide +kernel) h132 zero132 h1 ?_; simp only [Act.put]))
        have HS := Lib.hid (Blk.new w3 38 (blkC s).toArray)
        have HB4 := Lib.hid (bel_alloc HB.out (.cells (blkC s).toArray 38))
        have H24 := Lib.hid (H2.out.al (.cells (blkC s).toArray 38))
        have H14 := Lib.hid (H1.out.al (.cells (blkC s).toArray 38))
        have HV4 := Lib.hid (SlR.keep HV.out ((Below.refl _ w3).alloc (Nat.le_refl _) (.cells (blkC s).toArray 38)))
        have HS2 : Hid (w.heap.size + 1 < w3.heap.size) := Lib.hid H2.out.lt
        obtain ⟨bs, hbs⟩ : ∃ b, w3.heap.size = b := ⟨_, rfl⟩
        rw [hbs] at HS HS2 ⊢
        refine Agg.wp_at fun w4 hw4 => ?_
        rw [← hw4.out] at HS HB4 H24 H14 HV4
        clear hw4 hbs hcs h1 h132 HP HV H1 H2 HB l2 hsz h2
        have HB := HB4
        have HV := HV4
        have H1 := H14
        have H2 := H24
        clear HB4 HV4 H14 H24
        have HBO := Lib.hid hbo
        have HGG := Lib.hid hg
        clear hbo hg
        clear xH1_0 xH1_1 xH1_2 xH1_3 lH1
        have xH1_0 := H1.out.cell 0
        have xH1_1 := H1.out.cell 1
        have xH1_2 := H1.out.cell 2
        have xH1_3 := H1.out.cell 3
        have lH1 := H1.out.lt
        simp only [List.getElem?_cons_zero, List.getElem?_cons_succ] at xH1_0 xH1_1 xH1_2 xH1_3
        refine wp_label ?_
        go_wp2_with fail
        clear xH1_0 xH1_1 xH1_2 xH1_3 lH1
        refine (backwards_any (.slice (some ⟨b, o, none⟩) P.length cap) (.slice y l.length cm) (.int .i64 z) (.bool false) p w4).mono ?_
        rintro e w11 ⟨rfl, hD, hK, hb⟩
        replace HB := Lib.hid (HB.out.trans (hb.mono HB.out.size))
        replace HV := Lib.hid (HV.out.keep hb)
        replace H1 := Lib.hid (H1.out.keep hb)
        replace H2 := Lib.hid (H2.out.keep hb)
        replace HS := Lib.hid (HS.out.keep hb)
        clear hb
        go_wp2_with fail
        obtain ⟨xs, hxs⟩ : ∃ xs, ofPage p l.reverse = xs := ⟨_, rfl⟩
        have hit := backwards_iter l p _ _ _ _ cm _ _ _ w11 HD2.out HCB.out hD hK HV.out
        have HXB : Hid (∀ b ∈ xs, BOk b) := Lib.hid (by
          intro b hb
          rw [← hxs] at hb
          obtain ⟨x, hx, rfl⟩ := List.mem_map.1 hb
          exact HCB.out x (List.mem_reverse.1 (List.mem_filter.1 hx).1))
        rw [hxs] at hit
        have HSY : Hid (saysP P l p = xs.head?.getD s) := Lib.hid (by
          have e : ofPage p l = xs.reverse := by rw [← hxs, ofPage_rev, List.reverse_reverse]
          rw [saysP, e, List.getLast?_reverse, Int.toNat_natCast, HGP.out])
        have HS3 := Lib.hid (bok_cells HBO.out)
        have lbs := HS.out.lt
        have l2 := H2.out.lt
        have hsz := HB.out.size
        have hsb := HS2.out
        clear hD hK
        refine Agg.range_iter rfl (Agg.enters Try.func89 (by kernel_rfl) rfl) hit (fun W h => h) (fun A B h => ⟨none, below_grownBy h none, fun r e => by cases e⟩) (fun A B C h1 h2 => h1.trans h2) (fun A B h => h.below (Below.refl _ _) (Nat.le_refl _)) (fun x => rfl)
          (fun k W => k = 0 ∧ Below w11.heap.size w11 W)
          (fun c k W => c = .exit 1 ∧ ∃ h : 0 < xs.length, Blk W bs 38 (blkC xs[0]) ∧ Blk W (w.heap.size + 1) 38 (blkC zeroB) ∧ Below w.heap.size w W)
          (fun k A B h hT => ⟨h.1, hT.below h.2 (Nat.le_refl _)⟩) (fun c k A B h hT => ⟨h.1, h.2.1, hT.blk h.2.2.1, hT.blk h.2.2.2.1, hT.below h.2.2.2.2 hsz⟩)
          (fun k A B h hab => ⟨h.1, h.2.trans (hab.mono h.2.size)⟩) (fun c k A B h hab => ⟨h.1, h.2.1, h.2.2.1.keep hab, h.2.2.2.1.keep hab, h.2.2.2.2.trans (hab.mono h.2.2.2.2.size)⟩)
          (fun W h => ⟨rfl, h⟩) ?_ ?_ ?_
        · rintro lr k hk W hszW ⟨rfl, hb⟩
          have hbo := HXB.out _ (List.getElem_mem hk)
          have hsW := HS.out.keep hb
          have h2W := H2.out.keep hb
          have hbW := HB.out.trans (hb.mono HB.out.size)
          generalize hs0 : xs[0] = s0 at *
          have h132 := bok_cells hbo
          have h1 := blkC_one s0
          refine Agg.region_in Agg.false_no rfl ?_
          dsimp only [encB]
          simp only [List.zip_toArray, List.zip_cons_cons, List.zip_nil_left, List.zip_nil_right, List.foldl_toArray, List.foldl_cons, List.foldl_nil, List.setIfInBounds_toArray, List.set_cons_succ, List.set_cons_zero]
          go_wp2_with (first
            | (refine Agg.allocRow 38 (blkC zeroB).toArray rfl rfl (by kernel_rfl) ?_; simp only [Act.put, List.setIfInBounds_toArray, List.set_cons_succ, List.set_cons_zero])
            | (refine Agg.gStoreNew 132 (blkC s0) rfl rfl rfl rfl rfl rfl (by decide +kernel) h132 zero132 h1 ?_; simp only [Act.put]))
          have hbX := (Below.refl W.heap.size W).alloc (Nat.le_refl _) (.cells (blkC s0).toArray 38)
          refine ⟨Agg.keeps_below hbX, hbX.mono hszW, fun W2 hT => ?_⟩
          have hX := hT.blk (Blk.new W 38 (blkC s0).toArray)
          have hs2 := hT.blk (hsW.keep hbX)
          have h22 := hT.blk (h2W.keep hbX)
          have hb2 := hT.below (hbW.trans (hbX.mono hbW.size)) hsz
          clear hsW h2W hbW hbX hT
          refine wpIn_block ?_
          refine wpIn_seq ?_
          refine Agg.region_in (Agg.then_no (Agg.block_no Agg.roundEnd_no)) rfl ?_
          go_wp2_with (first
            | (refine Agg.gLoadB 132 hX h132 rfl rfl rfl (by decide +kernel) ?_; simp only [Act.put, List.setIfInBounds_toArray, List.set_cons_succ, List.set_cons_zero])
            | (refine Agg.gStoreB 132 (blkC s0) hs2 rfl rfl rfl rfl rfl (by decide +kernel) HS3.out h132 h1 (fun w14 hb14 hg14 => ?_)))
          refine wpIn_exit ?_
          refine ⟨Agg.keeps_blk hs2 hg14, rfl, hb14, h22.far' hg14 (by omega), ?_⟩
          exact hb2.trans (grown_below hg14 hb2.size (fun j hj => by cases hj; omega))
        · rintro D W hD ⟨hx0, hb⟩ hDl
          have hs2 := HS.out.keep hb
          have h2 := H2.out.keep hb
          have hb2 := HB.out.trans (hb.mono HB.out.size)
          have hgg := HGG.out
          rw [HSY.out, List.eq_nil_of_length_eq_zero hx0] at hgg
          subst hgg
          go_wp2_with (first
            | (refine Agg.gLoadB 132 hs2 HS3.out rfl rfl rfl (by decide +kernel) ?_; simp only [Act.put, List.setIfInBounds_toArray, List.set_cons_succ, List.set_cons_zero])
            | (refine Agg.gStoreB 132 (blkC s) h2 rfl rfl rfl rfl rfl (by decide +kernel) zero132 HS3.out (blkC_one _) (fun w14 hb14 hg14 => ?_)))
          have hDl2 := (hg14.block D (Array.getElem?_eq_some_iff.1 hDl).1 (fun e => by cases e; omega)).trans hDl
          have hT := Agg.shut_turn hDl2 hD
          refine Agg.marks_ret1 hDl2 (results_row2 (m := 132) rfl (hT.blk hb14) rfl (by decide +kernel) HS3.out) ⟨rfl, ?_⟩
          exact hT.below (hb2.trans (grown_below hg14 hb2.size (fun j hj => by cases hj; omega))) hsz
        · rintro D c kk W hD hkk ⟨rfl, hx0, hs2, h2, hb2⟩ hDl
          have hbo := HXB.out _ (List.getElem_mem hx0)
          have hgg := HGG.out
          rw [HSY.out, show xs.head?.getD s = xs[0] by rw [List.head?_eq_getElem?, List.getElem?_eq_getElem hx0]; rfl] at hgg
          obtain ⟨s0, hs0⟩ : ∃ s0, xs[0] = s0 := ⟨_, rfl⟩
          rw [hs0] at hgg hs2 hbo
          subst hgg
          have h132 := bok_cells hbo
          go_wp2_with (first
            | (refine Agg.gLoadB 132 hs2 h132 rfl rfl rfl (by decide +kernel) ?_; simp only [Act.put, List.setIfInBounds_toArray, List.set_cons_succ, List.set_cons_zero])
            | (refine Agg.gStoreB 132 (blkC s0) h2 rfl rfl rfl rfl rfl (by decide +kernel) zero132 h132 (blkC_one _) (fun w14 hb14 hg14 => ?_)))
          have hDl2 := (hg14.block D (Array.getElem?_eq_some_iff.1 hDl).1 (fun e => by cases e; omega)).trans hDl
          have hT := Agg.shut_turn hDl2 hD
          refine Agg.marks_ret1 hDl2 (results_row2 (m := 132) rfl (hT.blk hb14) rfl (by decide +kernel) h132) ⟨rfl, ?_⟩
          exact hT.below (hb2.trans (grown_below hg14 hb2.size (fun j hj => by cases hj; omega))) hsz
    · rw [if_pos rfl] at hg
      subst hg
      have h2 := H2.out
      go_wp2_with (first
        | (refine Agg.gBuild0 (.agg (blkC zeroB).toArray) rfl rfl (fun W => zero_blk W) ?_; simp only [Act.put, List.setIfInBounds_toArray, List.set_cons_succ, List.set_cons_zero])
        | (refine Agg.gStoreB 132 (blkC zeroB) h2 rfl rfl rfl rfl rfl (by decide +kernel) zero132 zero132 (blkC_one _) (fun w14 hb14 hg14 => ?_)))
      refine Agg.marks_ret0 (results_row2 (m := 132) rfl hb14 rfl (by decide +kernel) zero132) ⟨rfl, ?_⟩
      exact HB.out.trans (grown_below hg14 HB.out.size (fun j hj => (by cases hj; omega)))
end Go.Proofs.Ytjnnnnolikbjcaa
end
section
/-
  DEVICES: the document's Says, Read.
-/
namespace Go.Proofs.Ytjnnnnolikbjcaa
open Go.ChangeShapes Go.WideShapes Go.ChangeAt Go.RowKit Agg Pg Dv

theorem saysP_zero (P : List (List Sec)) (k : Int) : saysP P [] k = P.getD k.toNat zeroB := rfl
theorem saysP_succ (P : List (List Sec)) (l : List (Int × List Sec)) (k : Int) (r : Nat) (h : r < l.length) : saysP P (l.take (r + 1)) k = if l[r].1 = k then l[r].2 else saysP P (l.take r) k := by
  unfold saysP
  rw [ofPage_succ k l r h]
  by_cases e : l[r].1 = k <;> simp [e]
theorem saysP_bok {P : List (List Sec)} (hP : ∀ b ∈ P, BOk b) {l : List (Int × List Sec)} (hl : ∀ x ∈ l, BOk x.2) (k : Int) : BOk (saysP P l k) := by
  unfold saysP
  cases h : (ofPage k l).getLast? with
  | none => exact getD_bok hP _
  | some b =>
    have hb := List.mem_of_getLast? h
    obtain ⟨x, hx, rfl⟩ := List.mem_map.1 hb
    exact hl x (List.mem_filter.1 hx).1
end Go.Proofs.Ytjnnnnolikbjcaa
end
section
/-
  DEVICES: the document's Read.
-/
namespace Go.Proofs.Ytjnnnnolikbjcaa
open Go.ChangeShapes Go.WideShapes Go.ChangeAt Go.RowKit Agg Pg Dv

end Go.Proofs.Ytjnnnnolikbjcaa
end
section
/-
  DEVICES: the document's Light.
-/
namespace Go.Proofs.Ytjnnnnolikbjcaa
open Go.ChangeShapes Go.WideShapes Go.ChangeAt Go.RowKit Agg Pg Dv

/-- a device that is read -/
def DevR (w : World) (v : Value) (d : Dev) : Prop := ∃ (x y : Option Addr) (cap cm : Nat), v = .agg #[.slice x d.pages.length cap, .slice y d.cache.length cm, .int .i64 d.fuse, .bool d.off] ∧ Pgs w (.slice x d.pages.length cap) d.pages ∧ Wrs w (.slice y d.cache.length cm) d.cache
theorem DevR.keep {w w' : World} {v : Value} {d : Dev} (h : DevR w v d) (hb : Below w.heap.size w w') : DevR w' v d := by
  obtain ⟨x, y, cap, cm, h1, h2, h3⟩ := h
  exact ⟨x, y, cap, cm, h1, SlR.keep h2 hb, SlR.keep h3 hb⟩
theorem DevO.read {base : Nat} {w : World} {v : Value} {d : Dev} (h : DevO base w v d) : DevR w v d := by
  obtain ⟨p, c, h1, h2, h3⟩ := h
  have hp := ownSl h2
  have hc := ownSl h3
  obtain ⟨px, pc, rfl, _, _⟩ := hp.shape
  obtain ⟨cx, cc, rfl, _, _⟩ := hc.shape
  exact ⟨px, cx, pc, cc, h1, hp, hc⟩
theorem devR_zero (w : World) : DevR w (.agg #[.slice none 0 0, .slice none 0 0, .int .i64 0, .bool false]) dev0 := (devO_zero 0 w).read
end Go.Proofs.Ytjnnnnolikbjcaa
end
section
/-
  DEVICES: the document's Put.
-/
namespace Go.Proofs.Ytjnnnnolikbjcaa
open Go.ChangeShapes Go.WideShapes Go.ChangeAt Go.RowKit Agg Pg Dv

end Go.Proofs.Ytjnnnnolikbjcaa
end
section
/-
  DEVICES: the document's Flush.
-/
namespace Go.Proofs.Ytjnnnnolikbjcaa
open Go.ChangeShapes Go.WideShapes Go.ChangeAt Go.RowKit Agg Pg Dv

theorem mixB_15 (old new : List Sec) (h : new.length = 4) : mixB old new 15 = new := by
  match new, h with
  | [a, b, c, d], _ => rfl
theorem settle_all (Q : List (List Sec)) (p : Nat) (b : List Sec) (h : b.length = 4) : settle Q ((p : Int), b) 15 = Q.set p b := by
  unfold settle
  rw [mixB_15 _ _ h, Int.toNat_natCast]
theorem pgs_put (P : List (List Sec)) (hP : ∀ b ∈ P, BOk b) (p : Nat) (h : p < P.length) (b : List Sec) (hb : BOk b) (r : List Value) :
    spliced (P.flatMap blkC ++ r) (p * 132) (blkC b) = (P.set p b).flatMap blkC ++ r := by
  have hl : ((P.take p).flatMap blkC).length = p * 132 := by rw [flat_len blkC 132 _ (fun b hb => bok_cells (hP b (List.mem_of_mem_take hb))), List.length_take]; congr 1; omega
  have e2 : P.set p b = P.take p ++ (b :: P.drop (p + 1)) := by rw [List.set_eq_take_append_cons_drop, if_pos h]
  rw [pgs_cut P p h, e2, List.flatMap_append, List.flatMap_cons, List.append_assoc, List.append_assoc, ← List.append_assoc, spliced_mid _ _ _ _ _ hl (by rw [bok_cells hb, bok_cells (hP _ (List.getElem_mem h))])]
  simp only [List.append_assoc]
end Go.Proofs.Ytjnnnnolikbjcaa
end
section
/-
  DEVICES: the document's Crash.
-/
namespace Go.Proofs.Ytjnnnnolikbjcaa
open Go.ChangeShapes Go.WideShapes Go.ChangeAt Go.RowKit Agg Pg Dv

theorem settleBy_full (P : List (List Sec)) (l : List (Int × List Sec)) (ms : List Int) (k : Nat) (hk : k ≤ l.length) (h : ms.length ≤ k) : settleBy P (l.take k) ms = settleBy P l ms := by
  induction k generalizing P l ms with
  | zero =>
    have : ms = [] := List.eq_nil_of_length_eq_zero (by omega)
    subst this
    cases l <;> simp [settleBy]
  | succ k ih =>
    cases l with
    | nil => simp
    | cons x l =>
      cases ms with
      | nil => simp [settleBy]
      | cons m ms => simpa [settleBy] using ih (settle P x m) l ms (by simpa using hk) (by simpa using h)
theorem masksB_mem {ms : List Int} (h : masksB ms = true) : ∀ m ∈ ms, 0 ≤ m ∧ m < 16 := by
  intro m hm
  have := List.all_eq_true.1 h m hm
  simpa using this
end Go.Proofs.Ytjnnnnolikbjcaa
end
section
/-
  DEVICES: a Fill's block.
-/
namespace Pg
open Go Go.RowKit Agg
/-- what a part of a row is stored over -/
theorem spliced_part (a b c d : List Value) (j : Nat) (h : j + d.length ≤ b.length) : spliced (a ++ b ++ c) (a.length + j) d = a ++ spliced b j d ++ c := by
  have h1 : (a ++ b ++ c).take (a.length + j) = a ++ b.take j := by
    rw [List.append_assoc, List.take_append, List.take_of_length_le (by omega), Nat.add_sub_cancel_left, List.take_append_of_le_length (by omega)]
  have h2 : (a ++ b ++ c).drop (a.length + j + d.length) = b.drop (j + d.length) ++ c := by
    rw [List.append_assoc, List.drop_append, List.drop_eq_nil_of_le (by omega), show a.length + j + d.length - a.length = j + d.length by omega, List.drop_append_of_le_length (by omega)]; simp
  rw [spliced, h1, h2, spliced]
  simp only [List.append_assoc]
theorem spliced_one (l : List Value) (i : Nat) (v : Value) (h : i < l.length) : spliced l i [v] = l.set i v := by
  rw [spliced, List.set_eq_take_append_cons_drop, if_pos h]; simp
theorem secC_byte (s : Sec) (i : Nat) (v : UInt8) (h : i < s.2.length) : spliced (secC s) (1 + i) [.int .u8 (v.toNat : Int)] = secC (s.1, s.2.set i v) := by
  rw [spliced_one _ _ _ (by simp [secC, bv_length]; omega), Nat.add_comm 1 i, secC, secC, List.set_cons_succ]
  congr 1
  simp [bv, List.map_set]
theorem blkC_byteset (b : List Sec) (hl : Len32 b) (k : Nat) (h : k < b.length) (i : Nat) (hi : i < 32) (v : UInt8) : spliced (blkC b) (k * 33 + (1 + i)) [.int .u8 (v.toNat : Int)] = blkC (b.set k (b[k].1, b[k].2.set i v)) := by
  have h32 := hl _ (List.getElem_mem h)
  have e : blkC b = blkC (b.take k) ++ secC b[k] ++ blkC (b.drop (k + 1)) := by
    conv => lhs; rw [cut_at b k h]
    rw [blkC_append, blkC_cons]; simp only [List.append_assoc]
  have e2 : b.set k (b[k].1, b[k].2.set i v) = b.take k ++ ((b[k].1, b[k].2.set i v) :: b.drop (k + 1)) := by rw [List.set_eq_take_append_cons_drop, if_pos h]
  rw [e, ← take_len b hl k (by omega), spliced_part _ _ _ _ _ (by rw [secC_length _ h32]; simp; omega), secC_byte _ _ _ (by omega), e2, blkC_append, blkC_cons]
  simp only [List.append_assoc]
end Pg
namespace Dv
open Go Go.RowKit Agg Pg
/-- a block, told by its page, its stamps, and a byte -/
structure Fl where
  page : Int
  st : List Nat
  byte : UInt8
def Fl.Ok (f : Fl) : Prop := f.st.length = 4 ∧ ∀ s ∈ f.st, s < 18446744073709551616
def flC (f : Fl) : List Value := .int .i64 f.page :: ((f.st.map fun s : Nat => Value.int .u64 (s : Int)) ++ [.int .u8 (f.byte.toNat : Int)])
def fillSec (f : Fl) (j : Nat) : Sec := (f.st.getD j 0, List.replicate 32 (f.byte + UInt8.ofNat j))
def fillB (f : Fl) : List Sec := (List.range 4).map (fillSec f)
/-- .. as far as sector k, byte i; the stamp of sector k stands -/
def fillMid (f : Fl) (k i : Nat) : List Sec := (List.range 4).map fun j => if j < k then fillSec f j else if j = k then (f.st.getD j 0, List.replicate i (f.byte + UInt8.ofNat j) ++ List.replicate (32 - i) 0) else (0, List.replicate 32 0)
def fillTo (f : Fl) (k : Nat) : List Sec := (List.range 4).map fun j => if j < k then fillSec f j else (0, List.replicate 32 0)
theorem fillTo_zero (f : Fl) : fillTo f 0 = zeroB := rfl
theorem fillTo_all (f : Fl) : fillTo f 4 = fillB f := rfl
theorem fillMid_all (f : Fl) (k : Nat) (hk : k < 4) : fillMid f k 32 = fillTo f (k + 1) := by
  unfold fillMid fillTo
  apply List.map_congr_left
  intro j _
  by_cases h : j < k
  · rw [if_pos h, if_pos (by omega)]
  · rw [if_neg h]
    by_cases h2 : j = k
    · subst h2
      rw [if_pos rfl, if_pos (by omega)]; rfl
    · rw [if_neg h2, if_neg (by omega)]
theorem rep_set (n i : Nat) (a : UInt8) (h : i < n) : (List.replicate i a ++ List.replicate (n - i) 0).set i a = List.replicate (i + 1) a ++ List.replicate (n - (i + 1)) 0 := by
  rw [List.set_append_right _ _ (by simp)]
  rw [List.length_replicate, Nat.sub_self, show n - i = (n - (i + 1)) + 1 by omega, List.replicate_succ, List.set_cons_zero, List.replicate_succ', List.append_assoc]; rfl
theorem fillMid_succ (f : Fl) (k i : Nat) (hk : k < 4) (hi : i < 32) (h : k < (fillMid f k i).length) : (fillMid f k i).set k ((fillMid f k i)[k].1, (fillMid f k i)[k].2.set i (f.byte + UInt8.ofNat k)) = fillMid f k (i + 1) := by
  have hg : (fillMid f k i)[k] = (f.st.getD k 0, List.replicate i (f.byte + UInt8.ofNat k) ++ List.replicate (32 - i) 0) := by simp [fillMid]
  rw [hg]
  dsimp only
  rw [rep_set 32 i _ hi]
  unfold fillMid
  apply List.ext_getElem
  · simp
  · intro j h1 h2
    rw [List.getElem_set]
    by_cases e : k = j
    · subst e; simp
    · rw [if_neg e]
      have : ¬ j = k := fun e2 => e e2.symm
      simp [this]
theorem fillTo_stamp (f : Fl) (k : Nat) (hk : k < 4) (h : k < (fillTo f k).length) : (fillTo f k).set k (f.st.getD k 0, (fillTo f k)[k].2) = fillMid f k 0 := by
  have hg : (fillTo f k)[k] = (0, List.replicate 32 0) := by simp [fillTo]
  rw [hg]
  unfold fillMid fillTo
  apply List.ext_getElem
  · simp
  · intro j h1 h2
    rw [List.getElem_set]
    by_cases e : k = j
    · subst e; simp
    · rw [if_neg e]
      have : ¬ j = k := fun e2 => e e2.symm
      simp [this]
theorem getD_lt {f : Fl} (h : f.Ok) (j : Nat) : f.st.getD j 0 < 18446744073709551616 := by
  rw [List.getD_eq_getElem?_getD]
  cases e : f.st[j]? with
  | none => decide
  | some s => exact h.2 s (List.mem_of_getElem? e)
theorem fillMid_bok {f : Fl} (h : f.Ok) (k i : Nat) (hi : i ≤ 32) : BOk (fillMid f k i) := by
  refine ⟨by simp [fillMid], fun s hs => ?_⟩
  obtain ⟨j, _, rfl⟩ := List.mem_map.1 hs
  split
  · exact ⟨by simp [fillSec], getD_lt h j⟩
  · split
    · exact ⟨by simp; omega, getD_lt h j⟩
    · exact ⟨by simp, by decide⟩
theorem fillTo_bok {f : Fl} (h : f.Ok) (k : Nat) : BOk (fillTo f k) := by
  refine ⟨by simp [fillTo], fun s hs => ?_⟩
  obtain ⟨j, _, rfl⟩ := List.mem_map.1 hs
  split
  · exact ⟨by simp [fillSec], getD_lt h j⟩
  · exact ⟨by simp, by decide⟩
theorem fillB_bok {f : Fl} (h : f.Ok) : BOk (fillB f) := fillTo_all f ▸ fillTo_bok h 4
end Dv
namespace Go.Proofs.Ytjnnnnolikbjcaa
open Go.ChangeShapes Go.WideShapes Go.ChangeAt Go.RowKit Agg Pg Dv

theorem fo_fo_Se_0 : Agg.fieldOff Try.prog 36 0 = some 0 := by kernel_rfl
theorem fo_fo_Se_1 : Agg.fieldOff Try.prog 36 1 = some 1 := by kernel_rfl
theorem ai32 : AI Try.prog 34 5 32 1 := ⟨by kernel_rfl, by kernel_rfl⟩
theorem add_u8 (a : UInt8) (k : Nat) : IntKind.u8.wrap ((a.toNat : Int) + IntKind.u8.wrap (k : Int)) = ((a + UInt8.ofNat k).toNat : Int) := by
  rw [UInt8.toNat_add]
  have e : ∀ z : Int, IntKind.u8.wrap z = z % 256 := fun z => by simp [IntKind.wrap, IntKind.bits, IntKind.signed]
  rw [e, e, UInt8.toNat_ofNat']
  omega
end Go.Proofs.Ytjnnnnolikbjcaa
end
section
/-
  DEVICES: an op, its masks.
-/
namespace Agg
open Go Go.RowKit
/-- a slice of a slice, up to a place -/
theorem gSliceTo {P : Program} {w : World} {o : Oper} {Q : Exit → Act → World → Prop} {ops : Array Oper} {rest : List Oper} {a : Act} {t : TypeId} {x y : Operand} {u v : Value} (r : Value) (hg : o.guard = none) (ho : o.op = .slice t x none (some y) none) (hx : a.eval x = u) (hy : a.eval y = v) (hr : ∀ w2, (Instr.sliceAt t u none (some v) none).run P w2 = .ok r w2)
    (h : wpList P ops Q rest (a.put o.dst r) w) : wpList P ops Q (o :: rest) a w := by
  refine Agg.run hg r w ?_ h
  simp only [execOp, ho, Option.map_some, Option.map_none, hx, hy, hr, Sem.run_bind, Result.andThen_ok, Sem.run_pure]
end Agg
namespace Dv
open Go Go.RowKit Agg Pg
/-- what is done -/
structure OpD where
  kind : Int
  fl : Fl
  n : Int
  ms : List Int
def opC (o : OpD) (mv : Value) : List Value := .int .i64 o.kind :: (flC o.fl ++ [.int .i64 o.n, mv])
theorem flC_length {f : Fl} (h : f.Ok) : (flC f).length = 6 := by simp [flC, h.1]
theorem opC_length {o : OpD} (h : o.fl.Ok) (mv : Value) : (opC o mv).length = 9 := by simp [opC, flC_length h]
theorem opC_mv {o : OpD} (h : o.fl.Ok) (mv : Value) : (opC o mv)[8]? = some mv := by
  rw [opC, List.getElem?_cons_succ, List.getElem?_append_right (by rw [flC_length h]; omega), flC_length h]; rfl
theorem opC_n {o : OpD} (h : o.fl.Ok) (mv : Value) : (opC o mv)[7]? = some (.int .i64 o.n) := by
  rw [opC, List.getElem?_cons_succ, List.getElem?_append_right (by rw [flC_length h]; omega), flC_length h]; rfl
theorem opC_fl {o : OpD} (h : o.fl.Ok) (mv : Value) (i : Nat) (hi : i < 6) : (opC o mv)[1 + i]? = (flC o.fl)[i]? := by
  rw [opC, Nat.add_comm 1 i, List.getElem?_cons_succ, List.getElem?_append_left (by rw [flC_length h]; exact hi)]
theorem opC_page {o : OpD} (mv : Value) : (opC o mv)[1]? = some (.int .i64 o.fl.page) := rfl
theorem opC_kind {o : OpD} (mv : Value) : (opC o mv)[0]? = some (.int .i64 o.kind) := rfl
end Dv
namespace Go.Proofs.Ytjnnnnolikbjcaa
open Go.ChangeShapes Go.WideShapes Go.ChangeAt Go.RowKit Agg Pg Dv

end Go.Proofs.Ytjnnnnolikbjcaa
end
