/-
  DEVICES: Read.
-/
import Derived.Test.YtgfmpkcgkjpgnaaFdDvN
section
namespace Go.Proofs.Ytgfmpkcgkjpgnaa
open Go.ChangeShapes Go.WideShapes Go.ChangeAt Go.RowKit Agg Pg Dv
attribute [local go_sem] Oper.semAt_some

/-- what a page says -/
def saysP (P : List (List Sec)) (l : List (Int × List Sec)) (k : Int) : List Sec := ((ofPage k l).getLast?).getD (P.getD k.toNat zeroB)
def readP (d : Dev) (k : Int) : Int × List Sec := if rightD d = false then (260, zeroB) else if d.off then (10, zeroB) else if thereB d.pages.length k = false then (4, zeroB) else (0, saysP d.pages d.cache k)
theorem ofPage_rev (k : Int) (l : List (Int × List Sec)) : ofPage k l.reverse = (ofPage k l).reverse := by simp [ofPage]
theorem zero_blk (w : World) : (Instr.build 64 #[]).run Try.prog w = .ok (.agg (blkC zeroB).toArray) w := by kernel_rfl
set_option maxHeartbeats 1000000 in
theorem backwards_any (p c z q : Value) (k : Int) (w : World) :
    Calls Try.prog 58 #[.agg #[p, c, z, q], .int .i64 k] w fun e w' => e = .returned (.func (.func 79) #[] #[.pointer (some ⟨w.heap.size, 0, none⟩), .pointer (some ⟨w.heap.size + 1, 0, none⟩)]) ∧ Blk w' w.heap.size 46 [p, c, z, q] ∧ Blk w' (w.heap.size + 1) 3 [.int .i64 k] ∧ Below w.heap.size w w' := by
  have HB := Lib.hid (Below.refl w.heap.size w)
  go_enter Try.func58, Try.ntmps58
  go_wp2_with fail
  go_ret
  exact ⟨rfl, (Blk.new w 46 #[p, c, z, q]).al _, Blk.newAt (w.alloc _) 3 #[.int .i64 k] _ (by simp), bel_alloc (bel_alloc HB.out _) _⟩
set_option maxHeartbeats 4000000 in
set_option maxRecDepth 100000 in
theorem read_any (P : List (List Sec)) (l : List (Int × List Sec)) (z : Int) (q : Bool) (x y : Option Addr) (cap cm : Nat) (k : Int) (w : World)
    (hd1 : P.length ≤ 1000000) (hd2 : l.length ≤ 1000000) (hp : Pgs w (.slice x P.length cap) P) (hv : Wrs w (.slice y l.length cm) l) (hP : ∀ b ∈ P, BOk b) (hC : ∀ x ∈ l, BOk x.2) :
    Calls Try.prog 29 #[.agg #[.slice x P.length cap, .slice y l.length cm, .int .i64 z, .bool q], .int .i64 k] w fun e w' => e = .returned (.tuple #[.agg (blkC (readP ⟨P, l, z, q⟩ k).2).toArray, .int .i64 (readP ⟨P, l, z, q⟩ k).1]) ∧ Below w.heap.size w w' := by
  have HP := Lib.hid hp
  have HV := Lib.hid hv
  have HPB := Lib.hid hP
  have HCB := Lib.hid hC
  have HD1 := Lib.hid hd1
  have HD2 := Lib.hid hd2
  have HPN : Hid ((P.length : Int) ≤ 9223372036854775807) := Lib.hid (by omega)
  obtain ⟨rd, hrd⟩ : ∃ b, rightD ⟨P, l, z, q⟩ = b := ⟨_, rfl⟩
  have HRD := Lib.hid hrd
  obtain ⟨ee, hee⟩ : ∃ e, (if headD P.length z q && allD P.length l then (0 : Int) else 260) = e := ⟨_, rfl⟩
  have HEE := Lib.hid hee
  have HE2 : Hid (ee = if rd then 0 else 260) := Lib.hid (by rw [← hee, ← hrd, rightD_eq])
  obtain ⟨th, hth⟩ : ∃ b, thereB P.length k = b := ⟨_, rfl⟩
  have HTH := Lib.hid hth
  obtain ⟨g, hg⟩ : ∃ g, readP ⟨P, l, z, q⟩ k = g := ⟨_, rfl⟩
  rw [hg]
  have HG := Lib.hid hg
  clear hp hv hP hC hd1 hd2 hrd hee hth hg
  have HB := Lib.hid (Below.refl w.heap.size w)
  refine Agg.calls_of_marks Try.func29 rfl ?_
  simp only [Try.ntmps29, List.size_toArray, List.length_cons, List.length_nil, Nat.reduceAdd, Nat.reduceSub, Array.replicate_succ, Array.replicate_zero, List.push_toArray, List.append_toArray, List.nil_append, List.cons_append]
  go_upto_region 1 with (refine Agg.allocRow 64 (blkC zeroB).toArray rfl rfl (by kernel_rfl) ?_; simp only [Act.put, List.setIfInBounds_toArray, List.set_cons_succ, List.set_cons_zero])
  refine Agg.wp_at fun w1 hw1 => ?_
  have hb : Below w.heap.size w w1 := by rw [hw1.out]; repeat (first | exact Below.refl _ _ | refine Agg.bel_drew ?_ | refine Agg.bel_alloc ?_ _)
  replace HB := Lib.hid (HB.out.trans (hb.mono HB.out.size))
  replace HP := Lib.hid (HP.out.keep hb)
  replace HV := Lib.hid (HV.out.keep hb)
  clear hb
  have H1 : Hid (Blk w1 w.heap.size 46 [.slice x P.length cap, .slice y l.length cm, .int .i64 z, .bool q]) := by show Blk _ _ _ _; rw [hw1.out]; exact (Blk.new w 46 #[.slice x P.length cap, .slice y l.length cm, .int .i64 z, .bool q]).al _
  have H2 : Hid (Blk w1 (w.heap.size + 1) 64 (blkC zeroB)) := by show Blk _ _ _ _; rw [hw1.out]; exact Blk.newAt (w.alloc _) 64 (blkC zeroB).toArray _ (by simp)
  clear hw1
  have xH1_0 := H1.out.cell 0
  have xH1_1 := H1.out.cell 1
  have xH1_2 := H1.out.cell 2
  have xH1_3 := H1.out.cell 3
  have lH1 := H1.out.lt
  simp only [List.getElem?_cons_zero, List.getElem?_cons_succ] at xH1_0 xH1_1 xH1_2 xH1_3
  refine wp_scope_straight ?_
  go_wp2_with fail
  clear xH1_0 xH1_1 xH1_2 xH1_3 lH1
  refine (check_D x y P.length cap cm l z q w1 HPN.out HCB.out HV.out ee HEE.out).mono ?_
  rintro e w2 ⟨rfl, hb⟩
  replace HB := Lib.hid (HB.out.trans (hb.mono HB.out.size))
  replace HP := Lib.hid (HP.out.keep hb)
  replace HV := Lib.hid (HV.out.keep hb)
  replace H1 := Lib.hid (H1.out.keep hb)
  replace H2 := Lib.hid (H2.out.keep hb)
  clear hb
  have l2 := H2.out.lt
  have hsz := HB.out.size
  have h2 := H2.out
  cases rd
  · have hee : ee = 260 := HE2.out
    subst hee
    have hg := HG.out
    rw [readP, if_pos HRD.out] at hg
    subst hg
    go_wp2_with (first
      | (refine Agg.gBuild0 (.agg (blkC zeroB).toArray) rfl rfl (fun W => zero_blk W) ?_; simp only [Act.put, List.setIfInBounds_toArray, List.set_cons_succ, List.set_cons_zero])
      | (refine Agg.gStoreB 132 (blkC zeroB) h2 rfl rfl rfl rfl rfl (by decide +kernel) zero132 zero132 (blkC_one _) (fun w14 hb14 hg14 => ?_)))
    refine Agg.marks_ret0 (results_row2 (m := 132) rfl hb14 rfl (by decide +kernel) zero132) ⟨rfl, ?_⟩
    exact HB.out.trans (grown_below hg14 HB.out.size (fun j hj => (by cases hj; omega)))
  · have hee : ee = 0 := HE2.out
    subst hee
    have hg := HG.out
    rw [readP, if_neg (by rw [HRD.out]; decide)] at hg
    clear HG HEE HE2
    have xH1_0 := H1.out.cell 0
    have xH1_1 := H1.out.cell 1
    have xH1_2 := H1.out.cell 2
    have xH1_3 := H1.out.cell 3
    have lH1 := H1.out.lt
    simp only [List.getElem?_cons_zero, List.getElem?_cons_succ] at xH1_0 xH1_1 xH1_2 xH1_3
    cases q
    · rw [if_neg (Bool.false_ne_true)] at hg
      go_wp2_with fail
      clear xH1_0 xH1_1 xH1_2 xH1_3 lH1
      refine (there_any x y P.length cap l.length cm z false k w2 HPN.out th HTH.out).mono ?_
      rintro e w3 ⟨rfl, hb⟩
      replace HB := Lib.hid (HB.out.trans (hb.mono HB.out.size))
      replace HP := Lib.hid (HP.out.keep hb)
      replace HV := Lib.hid (HV.out.keep hb)
      replace H1 := Lib.hid (H1.out.keep hb)
      replace H2 := Lib.hid (H2.out.keep hb)
      clear hb
      have xH1_0 := H1.out.cell 0
      have xH1_1 := H1.out.cell 1
      have xH1_2 := H1.out.cell 2
      have xH1_3 := H1.out.cell 3
      have lH1 := H1.out.lt
      simp only [List.getElem?_cons_zero, List.getElem?_cons_succ] at xH1_0 xH1_1 xH1_2 xH1_3
      cases th
      · rw [if_pos HTH.out] at hg
        subst hg
        have h2 := H2.out
        go_wp2_with (first
          | (refine Agg.gBuild0 (.agg (blkC zeroB).toArray) rfl rfl (fun W => zero_blk W) ?_; simp only [Act.put, List.setIfInBounds_toArray, List.set_cons_succ, List.set_cons_zero])
          | (refine Agg.gStoreB 132 (blkC zeroB) h2 rfl rfl rfl rfl rfl (by decide +kernel) zero132 zero132 (blkC_one _) (fun w14 hb14 hg14 => ?_)))
        refine Agg.marks_ret0 (results_row2 (m := 132) rfl hb14 rfl (by decide +kernel) zero132) ⟨rfl, ?_⟩
        exact HB.out.trans (grown_below hg14 HB.out.size (fun j hj => (by cases hj; omega)))
      · rw [if_neg (by rw [HTH.out]; decide)] at hg
        obtain ⟨p, hp1, hp2⟩ := there_nat HTH.out
        subst hp1
        have hpl : (p : Int) < P.length := by omega
        obtain ⟨b, o, cap', hve, _, _, _, _⟩ := SlR.pos HP.out (by decide) (by omega)
        simp only [Value.slice.injEq, true_and] at hve
        obtain ⟨rfl, rfl⟩ := hve
        have hcs := flat_at blkC 132 (by decide) HP.out (fun b hb => bok_cells (HPB.out b hb)) hp2
        have hbo := HPB.out _ (List.getElem_mem hp2)
        have h132 := bok_cells hbo
        have h1 := blkC_one P[p]
        have HGP : Hid (P.getD p zeroB = P[p]) := Lib.hid (by rw [List.getD_eq_getElem?_getD, List.getElem?_eq_getElem hp2]; rfl)
        generalize P[p] = s at *
        go_upto_region 8 with (first
          | (refine Agg.gLoad 132 (blkC s) rfl rfl rfl (by decide +kernel) h132 hcs ?_; simp only [Act.put, List.setIfInBounds_toArray, List.set_cons_succ, List.set_cons_zero])
          | (refine Agg.allocRow 64 (blkC zeroB).toArray rfl rfl (by kernel_rfl) ?_; simp only [Act.put, List.setIfInBounds_toArray, List.set_cons_succ, List.set_cons_zero])
          | (refine Agg.gStoreNew 132 (blkC s) rfl rfl rfl rfl rfl rfl (by decide +kernel) h132 zero132 h1 ?_; simp only [Act.put]))
        have HS := Lib.hid (Blk.new w3 64 (blkC s).toArray)
        have HB4 := Lib.hid (bel_alloc HB.out (.cells (blkC s).toArray 64))
        have H24 := Lib.hid (H2.out.al (.cells (blkC s).toArray 64))
        have H14 := Lib.hid (H1.out.al (.cells (blkC s).toArray 64))
        have HV4 := Lib.hid (SlR.keep HV.out ((Below.refl _ w3).alloc (Nat.le_refl _) (.cells (blkC s).toArray 64)))
        have HS2 : Hid (w.heap.size + 1 < w3.heap.size) := Lib.hid H2.out.lt
        obtain ⟨bs, hbs⟩ : ∃ b, w3.heap.size = b := ⟨_, rfl⟩
        rw [hbs] at HS HS2 ⊢
        refine Agg.wp_at fun w4 hw4 => ?_
        rw [← hw4.out] at HS HB4 H24 H14 HV4
        clear hw4 hbs hcs h1 h132 HP HV H1 H2 HB l2 hsz h2
        have HB := HB4
        have HV := HV4
        have H1 := H14
        have H2 := H24
        clear HB4 HV4 H14 H24
        have HBO := Lib.hid hbo
        have HGG := Lib.hid hg
        clear hbo hg
        clear xH1_0 xH1_1 xH1_2 xH1_3 lH1
        have xH1_0 := H1.out.cell 0
        have xH1_1 := H1.out.cell 1
        have xH1_2 := H1.out.cell 2
        have xH1_3 := H1.out.cell 3
        have lH1 := H1.out.lt
        simp only [List.getElem?_cons_zero, List.getElem?_cons_succ] at xH1_0 xH1_1 xH1_2 xH1_3
        refine wp_label ?_
        go_wp2_with fail
        clear xH1_0 xH1_1 xH1_2 xH1_3 lH1
        refine (backwards_any (.slice (some ⟨b, o, none⟩) P.length cap) (.slice y l.length cm) (.int .i64 z) (.bool false) p w4).mono ?_
        rintro e w11 ⟨rfl, hD, hK, hb⟩
        replace HB := Lib.hid (HB.out.trans (hb.mono HB.out.size))
        replace HV := Lib.hid (HV.out.keep hb)
        replace H1 := Lib.hid (H1.out.keep hb)
        replace H2 := Lib.hid (H2.out.keep hb)
        replace HS := Lib.hid (HS.out.keep hb)
        clear hb
        go_wp2_with fail
        obtain ⟨xs, hxs⟩ : ∃ xs, ofPage p l.reverse = xs := ⟨_, rfl⟩
        have hit := backwards_iter l p _ _ _ _ cm _ _ _ w11 HD2.out HCB.out hD hK HV.out
        have HXB : Hid (∀ b ∈ xs, BOk b) := Lib.hid (by
          intro b hb
          rw [← hxs] at hb
          obtain ⟨x, hx, rfl⟩ := List.mem_map.1 hb
          exact HCB.out x (List.mem_reverse.1 (List.mem_filter.1 hx).1))
        rw [hxs] at hit
        have HSY : Hid (saysP P l p = xs.head?.getD s) := Lib.hid (by
          have e : ofPage p l = xs.reverse := by rw [← hxs, ofPage_rev, List.reverse_reverse]
          rw [saysP, e, List.getLast?_reverse, Int.toNat_natCast, HGP.out])
        have HS3 := Lib.hid (bok_cells HBO.out)
        have lbs := HS.out.lt
        have l2 := H2.out.lt
        have hsz := HB.out.size
        have hsb := HS2.out
        clear hD hK
        refine Agg.range_iter rfl (Agg.enters Try.func79 (by kernel_rfl) rfl) hit (fun W h => h) (fun A B h => ⟨none, below_grownBy h none, fun r e => by cases e⟩) (fun A B C h1 h2 => h1.trans h2) (fun A B h => h.below (Below.refl _ _) (Nat.le_refl _)) (fun x => rfl)
          (fun k W => k = 0 ∧ Below w11.heap.size w11 W)
          (fun c k W => c = .exit 1 ∧ ∃ h : 0 < xs.length, Blk W bs 64 (blkC xs[0]) ∧ Blk W (w.heap.size + 1) 64 (blkC zeroB) ∧ Below w.heap.size w W)
          (fun k A B h hT => ⟨h.1, hT.below h.2 (Nat.le_refl _)⟩) (fun c k A B h hT => ⟨h.1, h.2.1, hT.blk h.2.2.1, hT.blk h.2.2.2.1, hT.below h.2.2.2.2 hsz⟩)
          (fun k A B h hab => ⟨h.1, h.2.trans (hab.mono h.2.size)⟩) (fun c k A B h hab => ⟨h.1, h.2.1, h.2.2.1.keep hab, h.2.2.2.1.keep hab, h.2.2.2.2.trans (hab.mono h.2.2.2.2.size)⟩)
          (fun W h => ⟨rfl, h⟩) ?_ ?_ ?_
        · rintro lr k hk W hszW ⟨rfl, hb⟩
          have hbo := HXB.out _ (List.getElem_mem hk)
          have hsW := HS.out.keep hb
          have h2W := H2.out.keep hb
          have hbW := HB.out.trans (hb.mono HB.out.size)
          generalize hs0 : xs[0] = s0 at *
          have h132 := bok_cells hbo
          have h1 := blkC_one s0
          refine Agg.region_in Agg.false_no rfl ?_
          dsimp only [encB]
          simp only [List.zip_toArray, List.zip_cons_cons, List.zip_nil_left, List.zip_nil_right, List.foldl_toArray, List.foldl_cons, List.foldl_nil, List.setIfInBounds_toArray, List.set_cons_succ, List.set_cons_zero]
          go_wp2_with (first
            | (refine Agg.allocRow 64 (blkC zeroB).toArray rfl rfl (by kernel_rfl) ?_; simp only [Act.put, List.setIfInBounds_toArray, List.set_cons_succ, List.set_cons_zero])
            | (refine Agg.gStoreNew 132 (blkC s0) rfl rfl rfl rfl rfl rfl (by decide +kernel) h132 zero132 h1 ?_; simp only [Act.put]))
          have hbX := (Below.refl W.heap.size W).alloc (Nat.le_refl _) (.cells (blkC s0).toArray 64)
          refine ⟨Agg.keeps_below hbX, hbX.mono hszW, fun W2 hT => ?_⟩
          have hX := hT.blk (Blk.new W 64 (blkC s0).toArray)
          have hs2 := hT.blk (hsW.keep hbX)
          have h22 := hT.blk (h2W.keep hbX)
          have hb2 := hT.below (hbW.trans (hbX.mono hbW.size)) hsz
          clear hsW h2W hbW hbX hT
          refine wpIn_block ?_
          refine wpIn_seq ?_
          refine Agg.region_in (Agg.then_no (Agg.block_no Agg.roundEnd_no)) rfl ?_
          go_wp2_with (first
            | (refine Agg.gLoadB 132 hX h132 rfl rfl rfl (by decide +kernel) ?_; simp only [Act.put, List.setIfInBounds_toArray, List.set_cons_succ, List.set_cons_zero])
            | (refine Agg.gStoreB 132 (blkC s0) hs2 rfl rfl rfl rfl rfl (by decide +kernel) HS3.out h132 h1 (fun w14 hb14 hg14 => ?_)))
          refine wpIn_exit ?_
          refine ⟨Agg.keeps_blk hs2 hg14, rfl, hb14, h22.far' hg14 (by omega), ?_⟩
          exact hb2.trans (grown_below hg14 hb2.size (fun j hj => by cases hj; omega))
        · rintro D W hD ⟨hx0, hb⟩ hDl
          have hs2 := HS.out.keep hb
          have h2 := H2.out.keep hb
          have hb2 := HB.out.trans (hb.mono HB.out.size)
          have hgg := HGG.out
          rw [HSY.out, List.eq_nil_of_length_eq_zero hx0] at hgg
          subst hgg
          go_wp2_with (first
            | (refine Agg.gLoadB 132 hs2 HS3.out rfl rfl rfl (by decide +kernel) ?_; simp only [Act.put, List.setIfInBounds_toArray, List.set_cons_succ, List.set_cons_zero])
            | (refine Agg.gStoreB 132 (blkC s) h2 rfl rfl rfl rfl rfl (by decide +kernel) zero132 HS3.out (blkC_one _) (fun w14 hb14 hg14 => ?_)))
          have hDl2 := (hg14.block D (Array.getElem?_eq_some_iff.1 hDl).1 (fun e => by cases e; omega)).trans hDl
          have hT := Agg.shut_turn hDl2 hD
          refine Agg.marks_ret1 hDl2 (results_row2 (m := 132) rfl (hT.blk hb14) rfl (by decide +kernel) HS3.out) ⟨rfl, ?_⟩
          exact hT.below (hb2.trans (grown_below hg14 hb2.size (fun j hj => by cases hj; omega))) hsz
        · rintro D c kk W hD hkk ⟨rfl, hx0, hs2, h2, hb2⟩ hDl
          have hbo := HXB.out _ (List.getElem_mem hx0)
          have hgg := HGG.out
          rw [HSY.out, show xs.head?.getD s = xs[0] by rw [List.head?_eq_getElem?, List.getElem?_eq_getElem hx0]; rfl] at hgg
          obtain ⟨s0, hs0⟩ : ∃ s0, xs[0] = s0 := ⟨_, rfl⟩
          rw [hs0] at hgg hs2 hbo
          subst hgg
          have h132 := bok_cells hbo
          go_wp2_with (first
            | (refine Agg.gLoadB 132 hs2 h132 rfl rfl rfl (by decide +kernel) ?_; simp only [Act.put, List.setIfInBounds_toArray, List.set_cons_succ, List.set_cons_zero])
            | (refine Agg.gStoreB 132 (blkC s0) h2 rfl rfl rfl rfl rfl (by decide +kernel) zero132 h132 (blkC_one _) (fun w14 hb14 hg14 => ?_)))
          have hDl2 := (hg14.block D (Array.getElem?_eq_some_iff.1 hDl).1 (fun e => by cases e; omega)).trans hDl
          have hT := Agg.shut_turn hDl2 hD
          refine Agg.marks_ret1 hDl2 (results_row2 (m := 132) rfl (hT.blk hb14) rfl (by decide +kernel) h132) ⟨rfl, ?_⟩
          exact hT.below (hb2.trans (grown_below hg14 hb2.size (fun j hj => by cases hj; omega))) hsz
    · rw [if_pos rfl] at hg
      subst hg
      have h2 := H2.out
      go_wp2_with (first
        | (refine Agg.gBuild0 (.agg (blkC zeroB).toArray) rfl rfl (fun W => zero_blk W) ?_; simp only [Act.put, List.setIfInBounds_toArray, List.set_cons_succ, List.set_cons_zero])
        | (refine Agg.gStoreB 132 (blkC zeroB) h2 rfl rfl rfl rfl rfl (by decide +kernel) zero132 zero132 (blkC_one _) (fun w14 hb14 hg14 => ?_)))
      refine Agg.marks_ret0 (results_row2 (m := 132) rfl hb14 rfl (by decide +kernel) zero132) ⟨rfl, ?_⟩
      exact HB.out.trans (grown_below hg14 HB.out.size (fun j hj => (by cases hj; omega)))
end Go.Proofs.Ytgfmpkcgkjpgnaa
end
section
/-
  DEVICES: the document's Says, Read.
-/
namespace Go.Proofs.Ytgfmpkcgkjpgnaa
open Go.ChangeShapes Go.WideShapes Go.ChangeAt Go.RowKit Agg Pg Dv

theorem saysP_zero (P : List (List Sec)) (k : Int) : saysP P [] k = P.getD k.toNat zeroB := rfl
theorem saysP_succ (P : List (List Sec)) (l : List (Int × List Sec)) (k : Int) (r : Nat) (h : r < l.length) : saysP P (l.take (r + 1)) k = if l[r].1 = k then l[r].2 else saysP P (l.take r) k := by
  unfold saysP
  rw [ofPage_succ k l r h]
  by_cases e : l[r].1 = k <;> simp [e]
theorem saysP_bok {P : List (List Sec)} (hP : ∀ b ∈ P, BOk b) {l : List (Int × List Sec)} (hl : ∀ x ∈ l, BOk x.2) (k : Int) : BOk (saysP P l k) := by
  unfold saysP
  cases h : (ofPage k l).getLast? with
  | none => exact getD_bok hP _
  | some b =>
    have hb := List.mem_of_getLast? h
    obtain ⟨x, hx, rfl⟩ := List.mem_map.1 hb
    exact hl x (List.mem_filter.1 hx).1
set_option maxHeartbeats 4000000 in
set_option maxRecDepth 100000 in
theorem rSays_any (P : List (List Sec)) (l : List (Int × List Sec)) (z : Int) (q : Bool) (x y : Option Addr) (cap cm : Nat) (p : Nat) (hpl : p < P.length) (w : World)
    (hd2 : l.length ≤ 1000000) (hp : Pgs w (.slice x P.length cap) P) (hv : Wrs w (.slice y l.length cm) l) (hP : ∀ b ∈ P, BOk b) (hC : ∀ x ∈ l, BOk x.2) :
    Calls Try.prog 54 #[.agg #[.slice x P.length cap, .slice y l.length cm, .int .i64 z, .bool q], .int .i64 (p : Int)] w fun e w' => e = .returned (.agg (blkC (saysP P l p)).toArray) ∧ Below w.heap.size w w' := by
  obtain ⟨b, o, cap', hve, _, hmx, _, _⟩ := SlR.pos hp (by decide) (by omega)
  simp only [Value.slice.injEq, true_and] at hve
  obtain ⟨rfl, rfl⟩ := hve
  unfold maxLen at hmx
  have HP := Lib.hid hp
  have HV := Lib.hid hv
  have HV0 := HV
  have HPB := Lib.hid hP
  have HCB := Lib.hid hC
  have HW : Hid (∀ x ∈ l, (wrC x).length = 133) := Lib.hid (fun x hx => wrC_length x (hC x hx))
  have HPL := Lib.hid hpl
  have hln : (l.length : Int) ≤ 1000000 := by omega
  have hpn : (p : Int) < P.length := by omega
  clear hp hv hP hC
  have HB := Lib.hid (Below.refl w.heap.size w)
  go_enter Try.func54, Try.ntmps54
  go_upto_region 1 with (refine Agg.allocRow 64 (blkC zeroB).toArray rfl rfl (by kernel_rfl) ?_; simp only [Act.put, List.setIfInBounds_toArray, List.set_cons_succ, List.set_cons_zero])
  refine Agg.wp_at fun w1 hw1 => ?_
  have hb : Below w.heap.size w w1 := by rw [hw1.out]; repeat (first | exact Below.refl _ _ | refine Agg.bel_drew ?_ | refine Agg.bel_alloc ?_ _)
  replace HB := Lib.hid (HB.out.trans (hb.mono HB.out.size))
  replace HP := Lib.hid (HP.out.keep hb)
  replace HV := Lib.hid (HV.out.keep hb)
  clear hb
  have H1 : Hid (Blk w1 w.heap.size 46 [.slice (some ⟨b, o, none⟩) P.length cap, .slice y l.length cm, .int .i64 z, .bool q]) := by show Blk _ _ _ _; rw [hw1.out]; exact (Blk.new w 46 #[.slice (some ⟨b, o, none⟩) P.length cap, .slice y l.length cm, .int .i64 z, .bool q]).al _
  have H2 : Hid (Blk w1 (w.heap.size + 1) 64 (blkC zeroB)) := by show Blk _ _ _ _; rw [hw1.out]; exact Blk.newAt (w.alloc _) 64 (blkC zeroB).toArray _ (by simp)
  clear hw1
  have hcs := flat_at blkC 132 (by decide) HP.out (fun b hb => bok_cells (HPB.out b hb)) hpl
  have hbo := HPB.out _ (List.getElem_mem hpl)
  have h132 := bok_cells hbo
  have h1 := blkC_one P[p]
  have HGP : Hid (P.getD p zeroB = P[p]) := Lib.hid (by rw [List.getD_eq_getElem?_getD, List.getElem?_eq_getElem hpl]; rfl)
  generalize P[p] = s at *
  have xH1_0 := H1.out.cell 0
  have xH1_1 := H1.out.cell 1
  have xH1_2 := H1.out.cell 2
  have xH1_3 := H1.out.cell 3
  have lH1 := H1.out.lt
  simp only [List.getElem?_cons_zero, List.getElem?_cons_succ] at xH1_0 xH1_1 xH1_2 xH1_3
  go_upto_region 3 with (first
    | (refine Agg.gLoad 132 (blkC s) rfl rfl rfl (by decide +kernel) h132 hcs ?_; simp only [Act.put, List.setIfInBounds_toArray, List.set_cons_succ, List.set_cons_zero])
    | (refine Agg.allocRow 64 (blkC zeroB).toArray rfl rfl (by kernel_rfl) ?_; simp only [Act.put, List.setIfInBounds_toArray, List.set_cons_succ, List.set_cons_zero])
    | (refine Agg.gStoreNew 132 (blkC s) rfl rfl rfl rfl rfl rfl (by decide +kernel) h132 zero132 h1 ?_; simp only [Act.put]))
  have HS := Lib.hid (Blk.new w1 64 (blkC s).toArray)
  have HB4 := Lib.hid (bel_alloc HB.out (.cells (blkC s).toArray 64))
  have H24 := Lib.hid (H2.out.al (.cells (blkC s).toArray 64))
  have H14 := Lib.hid (H1.out.al (.cells (blkC s).toArray 64))
  have HS2 : Hid (w.heap.size + 1 < w1.heap.size) := Lib.hid H2.out.lt
  obtain ⟨bs, hbs⟩ : ∃ b, w1.heap.size = b := ⟨_, rfl⟩
  rw [hbs] at HS HS2 ⊢
  refine Agg.wp_at fun w4 hw4 => ?_
  rw [← hw4.out] at HS HB4 H24 H14
  clear xH1_0 xH1_1 xH1_2 xH1_3 lH1
  clear hw4 hbs hcs h1 h132 HP HV H1 H2 HB
  have HB := HB4
  have HBO := Lib.hid hbo
  clear HB4 hbo
  simp only [World.size_alloc]
  go_loopw [16, 7] (fun i _ wr => ∃ r : Nat, r ≤ l.length ∧ i = .int .i64 r ∧ Below w.heap.size w wr ∧ Blk wr bs 64 (blkC (saysP P (l.take r) p)) ∧ Blk wr (w.heap.size + 1) 64 (blkC zeroB)) (fun i _ _ => l.length - (intOf i).toNat)
  case atStart => exact ⟨0, by omega, rfl, HB.out, by rw [List.take_zero, saysP_zero, Int.toNat_natCast, HGP.out]; exact HS.out, H24.out⟩
  case round =>
    obtain ⟨r, hr, rfl, hb, hs, h2⟩ := hrel
    replace HB := Lib.hid hb
    have HV := Lib.hid (SlR.keep HV0.out hb)
    replace HS := Lib.hid hs
    have H2 := Lib.hid h2
    have HSO := Lib.hid (saysP_bok HPB.out (l := l.take r) (fun x hx => HCB.out x (List.mem_of_mem_take hx)) p)
    clear hb hs h2 H24 H14
    obtain ⟨wA, hwA⟩ : ∃ x, x = wr := ⟨_, rfl⟩
    subst hwA
    by_cases hlt : r < l.length
    · obtain ⟨b2, o2, cap2, hve, _, _, _, _⟩ := SlR.pos HV.out (by decide) (by omega)
      simp only [Value.slice.injEq, true_and] at hve
      obtain ⟨rfl, rfl⟩ := hve
      have hcs := flat_at wrC 133 (by decide) HV.out HW.out hlt
      have h133 := HW.out _ (List.getElem_mem hlt)
      have h1 := wrC_one l[r]
      have HBO2 := Lib.hid (HCB.out _ (List.getElem_mem hlt))
      have HST := Lib.hid (saysP_succ P l p r hlt)
      generalize l[r] = u at *
      generalize saysP P (l.take r) p = cur at *
      go_upto_region 5 with (first
        | (refine Agg.gLoad 133 (wrC u) rfl rfl rfl (by decide +kernel) h133 hcs ?_; simp only [Act.put, List.setIfInBounds_toArray, List.set_cons_succ, List.set_cons_zero])
        | (refine Agg.allocRow 88 wr0.toArray rfl rfl (by kernel_rfl) ?_; simp only [Act.put, List.setIfInBounds_toArray, List.set_cons_succ, List.set_cons_zero])
        | (refine Agg.gStoreNew 133 (wrC u) rfl rfl rfl rfl rfl rfl (by decide +kernel) h133 wr0_size h1 ?_; simp only [Act.put]))
      have HBX := Lib.hid (Blk.new wA 88 (wrC u).toArray)
      have hbA : Below wA.heap.size wA (wA.alloc (.cells (wrC u).toArray 88)) := (Below.refl _ _).alloc (Nat.le_refl _) _
      have HBB := Lib.hid (HB.out.trans (hbA.mono HB.out.size))
      have HSB := Lib.hid (HS.out.keep hbA)
      have H2B := Lib.hid (H2.out.keep hbA)
      refine Agg.wp_at fun wB hwB => ?_
      rw [← hwB.out] at HBX HSB HBB H2B
      clear hwB hcs h1 h133 hbA HV HB HS H2
      have e0 := HBX.out.cell 0
      simp only [wrC, List.getElem?_cons_zero] at e0
      by_cases hs : u.1 = p
      · have hsb : (u.1 == (p : Int)) = true := by simpa using hs
        have h132 := bok_cells HBO2.out
        have h132c := bok_cells HSO.out
        have HST2 : Hid (saysP P (l.take (r + 1)) p = u.2) := Lib.hid (by rw [HST.out, if_pos hs])
        have hc132 : ∀ i v, (blkC u.2)[i]? = some v → wB.cell? ⟨wA.heap.size, 1 + i, none⟩ = some v := fun i v hi => by
          rw [HBX.out.cell, show 1 + i = i + 1 by omega]; exact hi
        have hsb2 := HSB.out
        clear hs HST
        go_wp2_with (first
          | (refine Agg.gLoad 132 (blkC u.2) rfl rfl rfl (by decide +kernel) h132 hc132 ?_; simp only [Act.put, List.setIfInBounds_toArray, List.set_cons_succ, List.set_cons_zero])
          | (refine Agg.gStoreB 132 (blkC u.2) hsb2 rfl rfl rfl rfl rfl (by decide +kernel) h132c h132 (blkC_one _) (fun w14 hb14 hg14 => ?_)))
        have h2c := H2B.out.far' hg14 (by have := HS2.out; omega)
        have hbc := HBB.out.trans (grown_below hg14 HBB.out.size (fun j hj => by cases hj; have := HS2.out; omega))
        go_wp2_with fail
        exact ⟨⟨r + 1, by omega, by go_num, hbc, by rw [HST2.out]; exact hb14, h2c⟩, by simp [intOf]; omega⟩
      · have hsb : (u.1 == (p : Int)) = false := by simpa using hs
        have HST2 : Hid (saysP P (l.take (r + 1)) p = cur) := Lib.hid (by rw [HST.out, if_neg hs])
        clear hs HST
        go_wp2_with fail
        go_roundw
        case rel => exact ⟨r + 1, by omega, by go_num, HBB.out, by rw [HST2.out]; exact HSB.out, H2B.out⟩
        case measure => simp [intOf]; omega
    · obtain rfl : r = l.length := by omega
      rw [List.take_length] at HS HSO
      have hs2 := HS.out
      have h2 := H2.out
      have h132 := bok_cells HSO.out
      have hsz := HB.out.size
      go_wp2_with (first
        | (refine Agg.gLoadB 132 hs2 h132 rfl rfl rfl (by decide +kernel) ?_; simp only [Act.put, List.setIfInBounds_toArray, List.set_cons_succ, List.set_cons_zero])
        | (refine Agg.gStoreB 132 (blkC (saysP P l p)) h2 rfl rfl rfl rfl rfl (by decide +kernel) zero132 h132 (blkC_one _) (fun w14 hb14 hg14 => ?_)))
      refine bodyPost_ret (results_row1 (m := 132) rfl hb14 rfl (by decide +kernel) h132) rfl ⟨rfl, ?_⟩
      exact HB.out.trans (grown_below hg14 hsz (fun j hj => by cases hj; omega))
end Go.Proofs.Ytgfmpkcgkjpgnaa
end
section
/-
  DEVICES: the document's Read.
-/
namespace Go.Proofs.Ytgfmpkcgkjpgnaa
open Go.ChangeShapes Go.WideShapes Go.ChangeAt Go.RowKit Agg Pg Dv

end Go.Proofs.Ytgfmpkcgkjpgnaa
end
section
/-
  DEVICES: the document's Light.
-/
namespace Go.Proofs.Ytgfmpkcgkjpgnaa
open Go.ChangeShapes Go.WideShapes Go.ChangeAt Go.RowKit Agg Pg Dv

/-- a device that is read -/
def DevR (w : World) (v : Value) (d : Dev) : Prop := ∃ (x y : Option Addr) (cap cm : Nat), v = .agg #[.slice x d.pages.length cap, .slice y d.cache.length cm, .int .i64 d.fuse, .bool d.off] ∧ Pgs w (.slice x d.pages.length cap) d.pages ∧ Wrs w (.slice y d.cache.length cm) d.cache
theorem DevR.keep {w w' : World} {v : Value} {d : Dev} (h : DevR w v d) (hb : Below w.heap.size w w') : DevR w' v d := by
  obtain ⟨x, y, cap, cm, h1, h2, h3⟩ := h
  exact ⟨x, y, cap, cm, h1, SlR.keep h2 hb, SlR.keep h3 hb⟩
theorem DevO.read {base : Nat} {w : World} {v : Value} {d : Dev} (h : DevO base w v d) : DevR w v d := by
  obtain ⟨p, c, h1, h2, h3⟩ := h
  have hp := ownSl h2
  have hc := ownSl h3
  obtain ⟨px, pc, rfl, _, _⟩ := hp.shape
  obtain ⟨cx, cc, rfl, _, _⟩ := hc.shape
  exact ⟨px, cx, pc, cc, h1, hp, hc⟩
theorem devR_zero (w : World) : DevR w (.agg #[.slice none 0 0, .slice none 0 0, .int .i64 0, .bool false]) dev0 := (devO_zero 0 w).read
end Go.Proofs.Ytgfmpkcgkjpgnaa
end
