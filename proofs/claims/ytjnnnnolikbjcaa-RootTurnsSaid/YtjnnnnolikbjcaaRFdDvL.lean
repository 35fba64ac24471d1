/-
  DEVICES: Flush's closure.
-/
import Derived.Test.YtjnnnnolikbjcaaRFdDvI
section
namespace Go.Proofs.Ytjnnnnolikbjcaa
open Go.ChangeShapes Go.WideShapes Go.ChangeAt Go.RowKit Agg Pg Dv

theorem settle_length (P : List (List Sec)) (x : Int × List Sec) (m : Int) : (settle P x m).length = P.length := by simp [settle]
theorem zero_bok : BOk zeroB := zeroB_bok
theorem getD_bok {P : List (List Sec)} (hP : ∀ b ∈ P, BOk b) (k : Nat) : BOk (P.getD k zeroB) := by
  rw [List.getD_eq_getElem?_getD]
  cases h : P[k]? with
  | none => exact zeroB_bok
  | some b => exact hP b (List.mem_of_getElem? h)
theorem settle_bok {P : List (List Sec)} (hP : ∀ b ∈ P, BOk b) {x : Int × List Sec} (hx : BOk x.2) (m : Int) : ∀ b ∈ settle P x m, BOk b := by
  unfold settle
  exact set_bok hP _ (by rw [← mixTo_all]; exact mixTo_bok (getD_bok hP _) hx m 4)
theorem settleAll_take (P : List (List Sec)) (l : List (Int × List Sec)) (k : Nat) (h : k < l.length) : settleAll P (l.take (k + 1)) = settle (settleAll P (l.take k)) l[k] 15 := by
  unfold settleAll
  rw [List.take_succ_eq_append_getElem h, List.foldl_append]; rfl
theorem settleAll_ok {P : List (List Sec)} (hP : ∀ b ∈ P, BOk b) (l : List (Int × List Sec)) (hl : ∀ x ∈ l, BOk x.2) : (settleAll P l).length = P.length ∧ ∀ b ∈ settleAll P l, BOk b := by
  unfold settleAll
  induction l generalizing P with
  | nil => exact ⟨rfl, hP⟩
  | cons x r ih =>
    rw [List.foldl_cons]
    have := ih (settle_bok hP (hl x (by simp)) 15) (fun y hy => hl y (by simp [hy]))
    exact ⟨by rw [this.1, settle_length], this.2⟩
theorem blk_ne {w : World} {t g : Nat} {T E : TypeId} {cs ds : List Value} (h : Blk w t T cs) (h2 : Blk w g E ds) (hne : T ≠ E) : t ≠ g := by
  intro e
  subst e
  unfold Blk at h h2
  rw [h] at h2
  cases h2
  exact hne rfl
theorem there_nat {n : Nat} {k : Int} (h : thereB n k = true) : ∃ p : Nat, k = p ∧ p < n := by
  unfold thereB at h
  simp only [Bool.and_eq_true, decide_eq_true_eq] at h
  exact ⟨k.toNat, by omega, by omega⟩
set_option maxHeartbeats 4000000 in
set_option maxRecDepth 100000 in
theorem flushC_any (d : Dev) (base t : Nat) (w : World) (hd0 : 1 ≤ d.pages.length) (hd1 : d.pages.length ≤ 1000000) (hd2 : d.cache.length ≤ 1000000) (hz1 : -1 ≤ d.fuse) (hz2 : d.fuse ≤ 10000) (hP : ∀ b ∈ d.pages, BOk b) (hC : ∀ x ∈ d.cache, BOk x.2) (hin : ∀ x ∈ d.cache, thereB d.pages.length x.1 = true) (HT : TurnO base w t d) :
    Calls Try.prog 64 #[.pointer (some ⟨t, 0, none⟩)] w fun e w' => e = .returned (.int .i64 (flushP d).1) ∧ TurnO base w' t (flushP d).2 ∧ Below base w w' := by
  obtain ⟨P, l, z, q⟩ := d
  obtain ⟨p, c, hbt, H1, HP, HC⟩ := HT
  dsimp only at *
  obtain ⟨g, o', pc, rfl, hpl, hpc, _, hgl⟩ := SlR.pos (ownSl HP) (by decide) hd0
  obtain ⟨cx, cc, rfl, hcl, hcc⟩ := (ownSl HC).shape
  obtain rfl : o' = 0 := by
    rcases HP.2 with ⟨h, _⟩ | ⟨g', cap', cur, h, _⟩
    · cases h
    · cases h; rfl
  have HT1 := Lib.hid H1
  have HPO := Lib.hid HP
  have HC1 := Lib.hid HC
  have hlt := H1.lt
  have hbw : base ≤ w.heap.size := by omega
  obtain ⟨r, hr⟩ : ∃ r, flushP ⟨P, l, z, q⟩ = r := ⟨_, rfl⟩
  rw [hr]
  obtain ⟨f, hf⟩ : ∃ f, burnF z q = f := ⟨_, rfl⟩
  obtain ⟨f, o⟩ := f
  simp only [flushP, burnD, hf] at hr
  have HF := Lib.hid hf
  have HD1 := Lib.hid hd1
  have HD2 := Lib.hid hd2
  have HZ := Lib.hid (And.intro hz1 hz2)
  have HPB := Lib.hid hP
  have HCB := Lib.hid hC
  have HIN := Lib.hid hin
  have HW : Hid (∀ x ∈ l, (wrC x).length = 133) := Lib.hid (fun x hx => wrC_length x (hC x hx))
  have HPN : Hid ((P.length : Int) ≤ 1000000) := Lib.hid (by omega)
  clear H1 hf HP HC hd1 hd2 hz1 hz2 hpl hP hC hin hpc hcc
  have HB := Lib.hid (Below.refl w.heap.size w)
  go_enter Try.func64, Try.ntmps64
  go_wp2_with fail
  refine (burns_any (some ⟨g, 0, none⟩) cx P.length pc l.length cc z q _ t w HZ.out.1 HZ.out.2 HT1.out f o HF.out).mono ?_
  rintro e w2 ⟨rfl, hT2, hg2⟩
  have HP2 := Lib.hid (HPO.out.kept hg2 (own_apart HPO.out HT1.out bTne))
  have HC2 := Lib.hid (HC1.out.kept hg2 (own_apart HC1.out HT1.out wTne))
  have HB2 := Lib.hid (grown_below hg2 hbw (fun j hj => (by cases hj; exact hbt)))
  have HT2 := Lib.hid hT2
  clear hg2 hT2 HT1 HPO HC1 HB
  cases o
  · rw [show (!false) = true from rfl]
    rw [if_neg (by decide)] at hr
    subst hr
    have xHT2_0 := HT2.out.cell 0
    have xHT2_1 := HT2.out.cell 1
    have xHT2_2 := HT2.out.cell 2
    have xHT2_3 := HT2.out.cell 3
    have lHT2 := HT2.out.lt
    simp only [List.getElem?_cons_zero, List.getElem?_cons_succ] at xHT2_0 xHT2_1 xHT2_2 xHT2_3
    go_wp2_with fail
    clear xHT2_0 xHT2_1 xHT2_2 xHT2_3 lHT2
    obtain ⟨r, hk0, hbg, hpc1, hpc2, hrl⟩ := own_blk HP2.out
    have HRL := Lib.hid (And.intro hbg (And.intro hpc1 (And.intro hpc2 hrl)))
    have HK0 := Lib.hid hk0
    have HG0 := Lib.hid (blk_ne HT2.out hk0 (Ne.symm bTne))
    clear hk0 hbg hpc1 hpc2 hrl
    go_loopw [14, 4] (fun i v wr => ∃ k : Nat, k ≤ l.length ∧ i = .int .i64 k ∧ Below base w wr ∧ Blk wr t 85 [.slice (some ⟨g, 0, none⟩) P.length pc, .slice cx l.length cc, .int .i64 f, .bool false] ∧ Blk wr g 38 ((settleAll P (l.take k)).flatMap blkC ++ r) ∧ wr.ownsRow base 88 133 (.slice cx l.length cc) l.length (l.flatMap wrC)) (fun i _ _ => l.length - (intOf i).toNat)
    case atStart => exact ⟨0, by omega, rfl, HB2.out, HT2.out, HK0.out, HC2.out⟩
    case round =>
      obtain ⟨k, hk, rfl, hb, h1, h2, h3⟩ := hrel
      replace HB2 := Lib.hid hb
      replace HT2 := Lib.hid h1
      have HG := Lib.hid h2
      replace HC2 := Lib.hid h3
      have HSO := Lib.hid (settleAll_ok HPB.out (l.take k) (fun x hx => HCB.out x (List.mem_of_mem_take hx)))
      clear hb h1 h2 h3
      obtain ⟨wA, hwA⟩ : ∃ x, x = wr := ⟨_, rfl⟩
      subst hwA
      have hk6 : k ≤ 1000000 := by have := HD2.out; omega
      by_cases hlt2 : k < l.length
      · obtain ⟨b, o', cap', hve, _, _, _, _⟩ := SlR.pos (ownSl HC2.out) (by decide) (by omega)
        simp only [Value.slice.injEq, true_and] at hve
        obtain ⟨rfl, rfl⟩ := hve
        have hcs := flat_at wrC 133 (by decide) (ownSl HC2.out) HW.out hlt2
        have HS := Lib.hid (settleAll_take P l k hlt2)
        have h133 := HW.out _ (List.getElem_mem hlt2)
        have h1 := wrC_one l[k]
        have HBO := Lib.hid (HCB.out _ (List.getElem_mem hlt2))
        have HTH := Lib.hid (HIN.out _ (List.getElem_mem hlt2))
        generalize l[k] = s at *
        generalize settleAll P (l.take k) = Q at *
        go_upto_region 6 with (first
          | (refine Agg.gLoad 133 (wrC s) rfl rfl rfl (by decide +kernel) h133 hcs ?_; simp only [Act.put, List.setIfInBounds_toArray, List.set_cons_succ, List.set_cons_zero])
          | (refine Agg.allocRow 88 wr0.toArray rfl rfl (by kernel_rfl) ?_; simp only [Act.put, List.setIfInBounds_toArray, List.set_cons_succ, List.set_cons_zero])
          | (refine Agg.gStoreNew 133 (wrC s) rfl rfl rfl rfl rfl rfl (by decide +kernel) h133 wr0_size h1 ?_; simp only [Act.put]))
        have hbx := Blk.new wA 88 (wrC s).toArray
        clear hcs h1
        go_wp2_with (refine Agg.gLoadB 133 hbx h133 rfl rfl rfl (by decide +kernel) ?_; simp only [Act.put, List.setIfInBounds_toArray, List.set_cons_succ, List.set_cons_zero])
        obtain ⟨p, hp1, hp2⟩ := there_nat HTH.out
        have hT : Blk (wA.alloc (.cells (wrC s).toArray 88)) t 85 [.slice (some ⟨g, 0, none⟩) Q.length pc, .slice (some ⟨b, o', none⟩) l.length cc, .int .i64 f, .bool false] := by rw [HSO.out.1]; exact HT2.out.al _
        refine (settles_any Q r s.1 s.2 p hp1 (by rw [HSO.out.1]; exact hp2) HSO.out.2 HBO.out 15 _ _ t g pc _ _ _ _ hT (HG.out.al _) HG0.out (by rw [HSO.out.1]; exact HPN.out)).mono ?_
        rintro e w5 ⟨⟨v, rfl⟩, hG5, hg5⟩
        have hbA : base ≤ wA.heap.size := Nat.le_trans hbw HB2.out.size
        have hT5 := (HT2.out.al (.cells (wrC s).toArray 88)).far' hg5 HG0.out
        have hC5 := (own_keep HC2.out ((Below.refl _ wA).alloc (Nat.le_refl _) (.cells (wrC s).toArray 88))).kept hg5 (own_apart (own_keep HC2.out ((Below.refl _ wA).alloc (Nat.le_refl _) (.cells (wrC s).toArray 88))) (HG.out.al _) (Ne.symm bWne))
        have hB5 := (HB2.out.alloc hbA (.cells (wrC s).toArray 88)).trans (grown_below hg5 (by rw [World.size_alloc]; exact Nat.le_succ_of_le hbA) (fun j hj => (by cases hj; exact HRL.out.1)))
        have hS5 : settle Q s 15 = Q.set p (mixB (Q[p]'(by rw [HSO.out.1]; exact hp2)) s.2 15) := by
          unfold settle
          rw [hp1, Int.toNat_natCast, List.getD_eq_getElem?_getD, List.getElem?_eq_getElem (by rw [HSO.out.1]; exact hp2)]; rfl
        rw [← hS5] at hG5
        have HG5 := Lib.hid hG5
        have HT5 := Lib.hid hT5
        have HC5 := Lib.hid hC5
        have HB5 := Lib.hid hB5
        clear hG5 hT5 hC5 hB5 hS5 hg5 hT hbx h133 hp1 hp2 hbA
        go_wp2_with fail
        go_roundw
        case rel => exact ⟨k + 1, by omega, by go_num, HB5.out, HT5.out, by rw [HS.out]; exact HG5.out, HC5.out⟩
        case measure => simp [intOf]; omega
      · obtain rfl : k = l.length := by omega
        have hgk := HG.out
        rw [List.take_length] at hgk HSO
        have hT6 := HT2.out
        have HT7 := Lib.hid hT6
        have HG6 := Lib.hid hgk
        clear hgk HT2 HG
        go_wp2_with (refine Agg.gStoreCell 1 (.slice none 0 0) hT6 rfl rfl rfl rfl rfl (by kernel_rfl) rfl (by simp) rfl (fun w13 hb13 hg13 => ?_); clear hT6)
        go_ret
        have hC7 := HC2.out.kept hg13 (own_apart HC2.out HT7.out wTne)
        have hG7 := HG6.out.far' hg13 (Ne.symm HG0.out)
        have hB7 := HB2.out.trans (grown_below hg13 (Nat.le_trans hbw HB2.out.size) (fun j hj => (by cases hj; exact hbt)))
        have hO := blk_own hG7 HRL.out.1 HRL.out.2.1 HRL.out.2.2.1 (sz := 132) (n := P.length) (by rw [List.length_append, flat_len blkC 132 _ (fun b hb => bok_cells (HSO.out.2 b hb)), HSO.out.1, ← flat_len blkC 132 P (fun b hb => bok_cells (HPB.out b hb)), ← List.length_append]; exact HRL.out.2.2.2) (by rw [flat_len blkC 132 _ (fun b hb => bok_cells (HSO.out.2 b hb)), HSO.out.1])
        refine ⟨rfl, ⟨_, _, hbt, hb13, ?_, World.ownsRow_nil _ _ _ _⟩, hB7⟩
        show w13.ownsRow base _ 132 _ (settleAll P l).length _
        rw [HSO.out.1]
        exact hO
  · rw [show (!true) = false from rfl]
    rw [if_pos rfl] at hr
    subst hr
    go_wp2_with fail
    go_ret
    exact ⟨rfl, ⟨_, _, hbt, HT2.out, HP2.out, HC2.out⟩, HB2.out⟩
end Go.Proofs.Ytjnnnnolikbjcaa
end
section
/-
  DEVICES: something is done with a copy.
-/
namespace Go.Proofs.Ytjnnnnolikbjcaa
open Go.ChangeShapes Go.WideShapes Go.ChangeAt Go.RowKit Agg Pg Dv

theorem zero_dev (w : World) : (Instr.build 30 #[]).run Try.prog w = .ok (.agg #[.slice none 0 0, .slice none 0 0, .int .i64 0, .bool false]) w := by kernel_rfl
theorem blk_keepB {w w' : World} {g B : Nat} {t : TypeId} {cs : List Value} (h : Blk w g t cs) (hb : Below B w w') (hg : g < B) : Blk w' g t cs := (hb.block g hg).trans h
theorem own_one {w : World} {base : Nat} {e : TypeId} {sz n : Nat} {v : Value} {xs : List Value} (h : w.ownsRow base e sz v n xs) : v.oneCell' = true := by
  obtain ⟨x, c, rfl, _⟩ := (ownSl h).shape
  rfl
/-- a block below a row's base is not the row's -/
theorem own_off {w : World} {base : Nat} {e : TypeId} {sz n g : Nat} {v : Value} {xs : List Value} (h : w.ownsRow base e sz v n xs) (hg : g < base) : v.ownBlock = none ∨ v.ownBlock ≠ some g :=
  .inr (fun e => by have := own_block h g e; omega)
set_option maxHeartbeats 4000000 in
set_option maxRecDepth 100000 in
theorem goes_any (P : List (List Sec)) (l : List (Int × List Sec)) (z : Int) (q : Bool) (x y : Option Addr) (cap cm : Nat) (fn : FuncId) (caps : Array Value) (ef : ∀ args w, (callFunc fn args).run Try.prog w = .ok (.enter fn args) w) (r : Int × Dev) (w : World)
    (hd1 : P.length ≤ 1000000) (hd2 : l.length ≤ 1000000) (hp : Pgs w (.slice x P.length cap) P) (hv : Wrs w (.slice y l.length cm) l) (hP : ∀ b ∈ P, BOk b) (hC : ∀ x ∈ l, BOk x.2)
    (hdoes : rightD ⟨P, l, z, q⟩ = true → q = false → ∀ W base t, w.heap.size ≤ base → Below w.heap.size w W → TurnO base W t ⟨P, l, z, q⟩ → Calls Try.prog fn (#[.pointer (some ⟨t, 0, none⟩)] ++ caps) W fun e W' => e = .returned (.int .i64 r.1) ∧ TurnO base W' t r.2 ∧ Below base W W') :
    Calls Try.prog 43 #[.agg #[.slice x P.length cap, .slice y l.length cm, .int .i64 z, .bool q], .func (.func fn) #[] caps] w fun e w' => ∃ v, e = .returned (.tuple #[v, .int .i64 (goesP ⟨P, l, z, q⟩ r).1]) ∧ DevO w.heap.size w' v (goesP ⟨P, l, z, q⟩ r).2 ∧ Below w.heap.size w w' := by
  have HP := Lib.hid hp
  have HV := Lib.hid hv
  have HPB := Lib.hid hP
  have HCB := Lib.hid hC
  have HD1 := Lib.hid hd1
  have HD2 := Lib.hid hd2
  have HPN : Hid ((P.length : Int) ≤ 9223372036854775807) := Lib.hid (by omega)
  have HDO := Lib.hid hdoes
  obtain ⟨rd, hrd⟩ : ∃ b, rightD ⟨P, l, z, q⟩ = b := ⟨_, rfl⟩
  have HRD := Lib.hid hrd
  obtain ⟨ee, hee⟩ : ∃ e, (if headD P.length z q && allD P.length l then (0 : Int) else 260) = e := ⟨_, rfl⟩
  have HEE := Lib.hid hee
  have HE2 : Hid (ee = if rd then 0 else 260) := Lib.hid (by rw [← hee, ← hrd, rightD_eq])
  obtain ⟨g, hg⟩ : ∃ g, goesP ⟨P, l, z, q⟩ r = g := ⟨_, rfl⟩
  rw [hg]
  have HG := Lib.hid hg
  clear hp hv hP hC hd1 hd2 hdoes hrd hee hg
  have HB := Lib.hid (Below.refl w.heap.size w)
  go_enter Try.func43, Try.ntmps43
  go_upto_region 1 with (fail)
  refine Agg.wp_at fun w1 hw1 => ?_
  have hb : Below w.heap.size w w1 := by rw [hw1.out]; repeat (first | exact Below.refl _ _ | refine Agg.bel_drew ?_ | refine Agg.bel_alloc ?_ _)
  replace HB := Lib.hid (HB.out.trans (hb.mono HB.out.size))
  replace HP := Lib.hid (HP.out.keep hb)
  replace HV := Lib.hid (HV.out.keep hb)
  clear hb
  have H1 : Hid (Blk w1 w.heap.size 30 [.slice x P.length cap, .slice y l.length cm, .int .i64 z, .bool q]) := by show Blk _ _ _ _; rw [hw1.out]; exact (Blk.new w 30 #[.slice x P.length cap, .slice y l.length cm, .int .i64 z, .bool q]).al _
  have H2 : Hid (Blk w1 (w.heap.size + 1) 30 [.slice none 0 0, .slice none 0 0, .int .i64 0, .bool false]) := by show Blk _ _ _ _; rw [hw1.out]; exact Blk.newAt (w.alloc _) 30 #[.slice none 0 0, .slice none 0 0, .int .i64 0, .bool false] _ (by simp)
  clear hw1
  have xH1_0 := H1.out.cell 0
  have xH1_1 := H1.out.cell 1
  have xH1_2 := H1.out.cell 2
  have xH1_3 := H1.out.cell 3
  have lH1 := H1.out.lt
  simp only [List.getElem?_cons_zero, List.getElem?_cons_succ] at xH1_0 xH1_1 xH1_2 xH1_3
  go_wp2_with fail
  clear xH1_0 xH1_1 xH1_2 xH1_3 lH1
  refine (check_D x y P.length cap cm l z q w1 HPN.out HCB.out HV.out ee HEE.out).mono ?_
  rintro e w2 ⟨rfl, hb⟩
  replace HB := Lib.hid (HB.out.trans (hb.mono HB.out.size))
  replace HP := Lib.hid (HP.out.keep hb)
  replace HV := Lib.hid (HV.out.keep hb)
  replace H1 := Lib.hid (H1.out.keep hb)
  replace H2 := Lib.hid (H2.out.keep hb)
  clear hb
  cases rd
  · have hee : ee = 260 := HE2.out
    subst hee
    have hg := HG.out
    rw [goesP, if_pos HRD.out] at hg
    subst hg
    have h2 := H2.out
    go_wp2_with (first
      | (refine Agg.gBuild0 (.agg #[.slice none 0 0, .slice none 0 0, .int .i64 0, .bool false]) rfl rfl (fun W => zero_dev W) ?_; simp only [Act.put, List.setIfInBounds_toArray, List.set_cons_succ, List.set_cons_zero])
      | (refine Agg.gStoreB 4 [.slice none 0 0, .slice none 0 0, .int .i64 0, .bool false] h2 rfl rfl rfl rfl rfl (by decide +kernel) rfl rfl (by simp [Value.oneCell']) (fun w14 hb14 hg14 => ?_)))
    refine bodyPost_ret (results_row2 (m := 4) rfl hb14 rfl (by decide +kernel) rfl) rfl ⟨_, rfl, devO_zero _ _, ?_⟩
    exact HB.out.trans (grown_below hg14 HB.out.size (fun j hj => (by cases hj; omega)))
  · have hee : ee = 0 := HE2.out
    subst hee
    have hg := HG.out
    rw [goesP, if_neg (by rw [HRD.out]; decide)] at hg
    clear HG HEE HE2
    have xH1_0 := H1.out.cell 0
    have xH1_1 := H1.out.cell 1
    have xH1_2 := H1.out.cell 2
    have xH1_3 := H1.out.cell 3
    have lH1 := H1.out.lt
    simp only [List.getElem?_cons_zero, List.getElem?_cons_succ] at xH1_0 xH1_1 xH1_2 xH1_3
    have l2 := H2.out.lt
    have hsz := HB.out.size
    obtain ⟨B, hB⟩ : ∃ B, w2.heap.size = B := ⟨_, rfl⟩
    have HFR : Hid (From w2 w2) := Lib.hid (Below.refl _ _)
    cases q
    · rw [if_neg (Bool.false_ne_true)] at hg
      go_wp2_with fail
      clear xH1_0 xH1_1 xH1_2 xH1_3 lH1
      refine (own_D x y cap cm P l z false w2 HD1.out HD2.out HPB.out HP.out HV.out).mono ?_
      rintro e w3 ⟨p, c, rfl, hp, hc, hb⟩
      replace HB := Lib.hid (HB.out.trans (hb.mono HB.out.size))
      replace HP := Lib.hid (HP.out.keep hb)
      replace HV := Lib.hid (HV.out.keep hb)
      replace H2 := Lib.hid (H2.out.keep hb)
      replace HFR := Lib.hid (HFR.out.keep hb)
      clear hb
      rw [hB] at hp hc l2 hsz
      have hsz3 : B ≤ w3.heap.size := by have h := HFR.out; unfold From at h; rw [← hB]; exact h.size
      obtain ⟨px, pc, rfl, _, _⟩ := (ownSl hp).shape
      obtain ⟨cx, cc, rfl, _, _⟩ := (ownSl hc).shape
      go_wp2_with fail
      have hT : TurnO B (w3.alloc (.cells #[.slice px P.length pc, .slice cx l.length cc, .int .i64 z, .bool false] 85)) w3.heap.size ⟨P, l, z, false⟩ := ⟨_, _, hsz3, Blk.new w3 85 #[.slice px P.length pc, .slice cx l.length cc, .int .i64 z, .bool false], own_keep hp ((Below.refl _ _).alloc (Nat.le_refl _) _), own_keep hc ((Below.refl _ _).alloc (Nat.le_refl _) _)⟩
      refine (HDO.out HRD.out (by first | rfl | trivial) _ B _ hsz (HB.out.alloc HB.out.size _) hT).mono ?_
      rintro e w5 ⟨rfl, ⟨p', c', hbt, hT5, hP5, hC5⟩, hb5⟩
      have h2 := blk_keepB (H2.out.al (.cells #[.slice px P.length pc, .slice cx l.length cc, .int .i64 z, .bool false] 85)) hb5 l2
      obtain ⟨er, dr⟩ := r
      have hB5 := HB.out.trans ((((Below.refl _ w3).alloc (Nat.le_refl _) _).mono HB.out.size).trans (hb5.mono hsz))
      have hsz5 := hB5.size
      obtain ⟨px', pc', rfl, _, _⟩ := (ownSl hP5).shape
      obtain ⟨cx', cc', rfl, _, _⟩ := (ownSl hC5).shape
      have HP5 := Lib.hid hP5
      have HC5 := Lib.hid hC5
      have HB5 := Lib.hid hB5
      generalize w3.heap.size = t at *
      clear hb5 hT HB H2 HP HV hp hc hP5 hC5 hB5 HDO hsz3
      dsimp only at hT5 hg HP5 HC5
      by_cases hv : er = 0 ∨ er = 10
      · rw [if_neg (by rintro ⟨h1, h2⟩; rcases hv with h | h; exact h1 h; exact h2 h)] at hg
        subst hg
        have hbb : (er != 0 && er != 10) = false := by rcases hv with rfl | rfl <;> rfl
        have hv2 : ((er != 0) = false) ∨ ((er != 0) = true ∧ (er != 10) = false) := by rcases hv with rfl | rfl <;> simp
        clear hbb hv
        rcases hv2 with hv0 | ⟨hv0, hv1⟩
        all_goals
          go_wp2_with (first
            | (refine Agg.gLoadB 4 hT5 rfl rfl rfl rfl (by decide +kernel) ?_; simp only [Act.put, List.setIfInBounds_toArray, List.set_cons_succ, List.set_cons_zero])
            | (refine Agg.gStoreB 4 [.slice px' dr.pages.length pc', .slice cx' dr.cache.length cc', .int .i64 dr.fuse, .bool dr.off] h2 rfl rfl rfl rfl rfl (by decide +kernel) rfl rfl (by simp [Value.oneCell']) (fun w14 hb14 hg14 => ?_)))
          refine bodyPost_ret (results_row2 (m := 4) rfl hb14 rfl (by decide +kernel) rfl) rfl ⟨_, rfl, ⟨_, _, rfl, ?_, ?_⟩, ?_⟩
          · exact own_base (HP5.out.kept hg14 (own_off HP5.out l2)) hsz
          · exact own_base (HC5.out.kept hg14 (own_off HC5.out l2)) hsz
          · exact HB5.out.trans (grown_below hg14 hsz5 (fun j hj => (by cases hj; omega)))
      · have hv0 : (er != 0) = true := by simp; omega
        have hv1 : (er != 10) = true := by simp; omega
        rw [if_pos (by constructor <;> omega)] at hg
        subst hg
        clear hv hT5
        go_wp2_with (first
          | (refine Agg.gBuild0 (.agg #[.slice none 0 0, .slice none 0 0, .int .i64 0, .bool false]) rfl rfl (fun W => zero_dev W) ?_; simp only [Act.put, List.setIfInBounds_toArray, List.set_cons_succ, List.set_cons_zero])
          | (refine Agg.gStoreB 4 [.slice none 0 0, .slice none 0 0, .int .i64 0, .bool false] h2 rfl rfl rfl rfl rfl (by decide +kernel) rfl rfl (by simp [Value.oneCell']) (fun w14 hb14 hg14 => ?_)))
        refine bodyPost_ret (results_row2 (m := 4) rfl hb14 rfl (by decide +kernel) rfl) rfl ⟨_, rfl, devO_zero _ _, ?_⟩
        exact HB5.out.trans (grown_below hg14 hsz5 (fun j hj => (by cases hj; omega)))
    · rw [if_pos rfl] at hg
      subst hg
      go_wp2_with fail
      clear xH1_0 xH1_1 xH1_2 xH1_3 lH1
      refine (own_D x y cap cm P l z true w2 HD1.out HD2.out HPB.out HP.out HV.out).mono ?_
      rintro e w4 ⟨p, c, rfl, hp, hc, hb⟩
      replace HB := Lib.hid (HB.out.trans (hb.mono HB.out.size))
      replace HP := Lib.hid (HP.out.keep hb)
      replace HV := Lib.hid (HV.out.keep hb)
      replace H2 := Lib.hid (H2.out.keep hb)
      replace HFR := Lib.hid (HFR.out.keep hb)
      clear hb
      have h2 := H2.out
      rw [hB] at hp hc l2 hsz
      obtain ⟨px, pc, rfl, _, _⟩ := (ownSl hp).shape
      obtain ⟨cx, cc, rfl, _, _⟩ := (ownSl hc).shape
      go_wp2_with (refine Agg.gStoreB 4 [.slice px P.length pc, .slice cx l.length cc, .int .i64 z, .bool true] h2 rfl rfl rfl rfl rfl (by decide +kernel) rfl rfl (by simp [Value.oneCell']) (fun w14 hb14 hg14 => ?_))
      refine bodyPost_ret (results_row2 (m := 4) rfl hb14 rfl (by decide +kernel) rfl) rfl ⟨_, rfl, ⟨_, _, rfl, ?_, ?_⟩, ?_⟩
      · exact own_base (hp.kept hg14 (own_off hp l2)) (by omega)
      · exact own_base (hc.kept hg14 (own_off hc l2)) (by omega)
      · exact HB.out.trans (grown_below hg14 HB.out.size (fun j hj => (by cases hj; omega)))
end Go.Proofs.Ytjnnnnolikbjcaa
end
section
/-
  DEVICES: Put, Flush, Light.
-/
namespace Go.Proofs.Ytjnnnnolikbjcaa
open Go.ChangeShapes Go.WideShapes Go.ChangeAt Go.RowKit Agg Pg Dv

theorem right_parts {P : List (List Sec)} {l : List (Int × List Sec)} {z : Int} {q : Bool} (h : rightD ⟨P, l, z, q⟩ = true) : 24 ≤ P.length ∧ P.length ≤ 256 ∧ -1 ≤ z ∧ z ≤ 10000 ∧ ∀ x ∈ l, thereB P.length x.1 = true := by
  rw [rightD_eq, headD, allD] at h
  simp only [Bool.and_eq_true, decide_eq_true_eq, List.all_eq_true] at h
  obtain ⟨⟨⟨⟨⟨h1, h2⟩, h3⟩, h4⟩, _⟩, h6⟩ := h
  exact ⟨by omega, by omega, h3, h4, h6⟩
set_option maxHeartbeats 4000000 in
set_option maxRecDepth 100000 in
theorem put_any (P : List (List Sec)) (l : List (Int × List Sec)) (z : Int) (q : Bool) (x y : Option Addr) (cap cm : Nat) (k : Int) (b : List Sec) (hb : BOk b) (w : World)
    (hd1 : P.length ≤ 1000000) (hd2 : l.length ≤ 1000000) (hp : Pgs w (.slice x P.length cap) P) (hv : Wrs w (.slice y l.length cm) l) (hP : ∀ b ∈ P, BOk b) (hC : ∀ x ∈ l, BOk x.2) :
    Calls Try.prog 33 #[.agg #[.slice x P.length cap, .slice y l.length cm, .int .i64 z, .bool q], .int .i64 k, .agg (blkC b).toArray] w fun e w' => ∃ v, e = .returned (.tuple #[v, .int .i64 (goesP ⟨P, l, z, q⟩ (putP ⟨P, l, z, q⟩ k b)).1]) ∧ DevO w.heap.size w' v (goesP ⟨P, l, z, q⟩ (putP ⟨P, l, z, q⟩ k b)).2 ∧ Below w.heap.size w w' := by
  have HP := Lib.hid hp
  have HV := Lib.hid hv
  have HGO := Lib.hid (fun W caps h1 h2 h3 => goes_any P l z q x y cap cm 60 caps (Agg.enters Try.func60 (by kernel_rfl) rfl) (putP ⟨P, l, z, q⟩ k b) W hd1 hd2 h1 h2 hP hC h3)
  have HB0 := Lib.hid hb
  have HD := Lib.hid (And.intro hd1 hd2)
  obtain ⟨g, hg⟩ : ∃ g, goesP ⟨P, l, z, q⟩ (putP ⟨P, l, z, q⟩ k b) = g := ⟨_, rfl⟩
  rw [hg] at HGO ⊢
  clear hp hv hP hC hd1 hd2 hg hb
  have HB := Lib.hid (Below.refl w.heap.size w)
  go_enter Try.func33, Try.ntmps33
  go_upto_region 1 with (fail)
  refine Agg.wp_at fun w1 hw1 => ?_
  have hb : Below w.heap.size w w1 := by rw [hw1.out]; repeat (first | exact Below.refl _ _ | refine Agg.bel_drew ?_ | refine Agg.bel_alloc ?_ _)
  replace HB := Lib.hid (HB.out.trans (hb.mono HB.out.size))
  replace HP := Lib.hid (HP.out.keep hb)
  replace HV := Lib.hid (HV.out.keep hb)
  clear hb
  have H1 : Hid (Blk w1 w.heap.size 30 [.slice x P.length cap, .slice y l.length cm, .int .i64 z, .bool q]) := by show Blk _ _ _ _; rw [hw1.out]; exact (((Blk.new w 30 #[.slice x P.length cap, .slice y l.length cm, .int .i64 z, .bool q]).al _).al _).al _
  have H2 : Hid (Blk w1 (w.heap.size + 1) 3 [.int .i64 k]) := by show Blk _ _ _ _; rw [hw1.out]; exact ((Blk.newAt (w.alloc _) 3 #[.int .i64 k] _ (by simp)).al _).al _
  have H3 : Hid (Blk w1 (w.heap.size + 2) 38 (blkC b)) := by show Blk _ _ _ _; rw [hw1.out]; exact (Blk.newAt ((w.alloc _).alloc _) 38 (blkC b).toArray _ (by simp)).al _
  have H4 : Hid (Blk w1 (w.heap.size + 3) 30 [.slice none 0 0, .slice none 0 0, .int .i64 0, .bool false]) := by show Blk _ _ _ _; rw [hw1.out]; exact Blk.newAt (((w.alloc _).alloc _).alloc _) 30 #[.slice none 0 0, .slice none 0 0, .int .i64 0, .bool false] _ (by simp)
  clear hw1
  have xH1_0 := H1.out.cell 0
  have xH1_1 := H1.out.cell 1
  have xH1_2 := H1.out.cell 2
  have xH1_3 := H1.out.cell 3
  have lH1 := H1.out.lt
  simp only [List.getElem?_cons_zero, List.getElem?_cons_succ] at xH1_0 xH1_1 xH1_2 xH1_3
  go_wp2_with fail
  have l2 := H2.out.lt
  have l3 := H3.out.lt
  have l4 := H4.out.lt
  have hsz := HB.out.size
  clear xH1_0 xH1_1 xH1_2 xH1_3 lH1
  refine (HGO.out w1 #[.pointer (some ⟨w.heap.size + 1, 0, none⟩), .pointer (some ⟨w.heap.size + 2, 0, none⟩)] HP.out HV.out (fun hr hq W base t hbase hW hT => (putC_any ⟨P, l, z, q⟩ k b HB0.out base t (w.heap.size + 1) (w.heap.size + 2) W HD.out.1 HD.out.2 (right_parts hr).2.2.1 (right_parts hr).2.2.2.1 hT (H2.out.keep hW) (H3.out.keep hW) (by omega) (by omega)))).mono ?_
  rintro e w2 ⟨v, rfl, hv, hb⟩
  replace HB := Lib.hid (HB.out.trans (hb.mono HB.out.size))
  replace HP := Lib.hid (HP.out.keep hb)
  replace HV := Lib.hid (HV.out.keep hb)
  replace H1 := Lib.hid (H1.out.keep hb)
  replace H2 := Lib.hid (H2.out.keep hb)
  replace H3 := Lib.hid (H3.out.keep hb)
  replace H4 := Lib.hid (H4.out.keep hb)
  clear hb
  obtain ⟨er, dr⟩ := g
  obtain ⟨p', c', rfl, hP5, hC5⟩ := hv
  obtain ⟨px', pc', rfl, _, _⟩ := (ownSl hP5).shape
  obtain ⟨cx', cc', rfl, _, _⟩ := (ownSl hC5).shape
  have h4 := H4.out
  have hsz5 := HB.out.size
  have HP5 := Lib.hid hP5
  have HC5 := Lib.hid hC5
  clear hP5 hC5
  go_wp2_with (refine Agg.gStoreB 4 [.slice px' dr.pages.length pc', .slice cx' dr.cache.length cc', .int .i64 dr.fuse, .bool dr.off] h4 rfl rfl rfl rfl rfl (by decide +kernel) rfl rfl (by simp [Value.oneCell']) (fun w14 hb14 hg14 => ?_))
  refine bodyPost_ret (results_row2 (m := 4) rfl hb14 rfl (by decide +kernel) rfl) rfl ⟨_, rfl, ⟨_, _, rfl, ?_, ?_⟩, ?_⟩
  · exact own_base (HP5.out.kept hg14 (own_off HP5.out l4)) hsz
  · exact own_base (HC5.out.kept hg14 (own_off HC5.out l4)) hsz
  · exact HB.out.trans (grown_below hg14 hsz5 (fun j hj => (by cases hj; omega)))
set_option maxHeartbeats 4000000 in
set_option maxRecDepth 100000 in
theorem flush_any (P : List (List Sec)) (l : List (Int × List Sec)) (z : Int) (q : Bool) (x y : Option Addr) (cap cm : Nat) (w : World)
    (hd1 : P.length ≤ 1000000) (hd2 : l.length ≤ 1000000) (hp : Pgs w (.slice x P.length cap) P) (hv : Wrs w (.slice y l.length cm) l) (hP : ∀ b ∈ P, BOk b) (hC : ∀ x ∈ l, BOk x.2) :
    Calls Try.prog 35 #[.agg #[.slice x P.length cap, .slice y l.length cm, .int .i64 z, .bool q]] w fun e w' => ∃ v, e = .returned (.tuple #[v, .int .i64 (goesP ⟨P, l, z, q⟩ (flushP ⟨P, l, z, q⟩)).1]) ∧ DevO w.heap.size w' v (goesP ⟨P, l, z, q⟩ (flushP ⟨P, l, z, q⟩)).2 ∧ Below w.heap.size w w' := by
  have HP := Lib.hid hp
  have HV := Lib.hid hv
  have HGO := Lib.hid (fun W caps h1 h2 h3 => goes_any P l z q x y cap cm 64 caps (Agg.enters Try.func64 (by kernel_rfl) rfl) (flushP ⟨P, l, z, q⟩) W hd1 hd2 h1 h2 hP hC h3)
  have HPB := Lib.hid hP
  have HCB := Lib.hid hC
  have HD := Lib.hid (And.intro hd1 hd2)
  obtain ⟨g, hg⟩ : ∃ g, goesP ⟨P, l, z, q⟩ (flushP ⟨P, l, z, q⟩) = g := ⟨_, rfl⟩
  rw [hg] at HGO ⊢
  clear hp hv hP hC hd1 hd2 hg
  have HB := Lib.hid (Below.refl w.heap.size w)
  go_enter Try.func35, Try.ntmps35
  go_upto_region 1 with (fail)
  refine Agg.wp_at fun w1 hw1 => ?_
  have hb : Below w.heap.size w w1 := by rw [hw1.out]; repeat (first | exact Below.refl _ _ | refine Agg.bel_drew ?_ | refine Agg.bel_alloc ?_ _)
  replace HB := Lib.hid (HB.out.trans (hb.mono HB.out.size))
  replace HP := Lib.hid (HP.out.keep hb)
  replace HV := Lib.hid (HV.out.keep hb)
  clear hb
  have H1 : Hid (Blk w1 w.heap.size 30 [.slice x P.length cap, .slice y l.length cm, .int .i64 z, .bool q]) := by show Blk _ _ _ _; rw [hw1.out]; exact (Blk.new w 30 #[.slice x P.length cap, .slice y l.length cm, .int .i64 z, .bool q]).al _
  have H4 : Hid (Blk w1 (w.heap.size + 1) 30 [.slice none 0 0, .slice none 0 0, .int .i64 0, .bool false]) := by show Blk _ _ _ _; rw [hw1.out]; exact Blk.newAt (w.alloc _) 30 #[.slice none 0 0, .slice none 0 0, .int .i64 0, .bool false] _ (by simp)
  clear hw1
  have xH1_0 := H1.out.cell 0
  have xH1_1 := H1.out.cell 1
  have xH1_2 := H1.out.cell 2
  have xH1_3 := H1.out.cell 3
  have lH1 := H1.out.lt
  simp only [List.getElem?_cons_zero, List.getElem?_cons_succ] at xH1_0 xH1_1 xH1_2 xH1_3
  go_wp2_with fail
  have l4 := H4.out.lt
  have hsz := HB.out.size
  clear xH1_0 xH1_1 xH1_2 xH1_3 lH1
  refine (HGO.out w1 #[] HP.out HV.out (fun hr hq W base t hbase hW hT => (flushC_any ⟨P, l, z, q⟩ base t W (by have := (right_parts hr).1; show 1 ≤ P.length; omega) HD.out.1 HD.out.2 (right_parts hr).2.2.1 (right_parts hr).2.2.2.1 HPB.out HCB.out (right_parts hr).2.2.2.2 hT))).mono ?_
  rintro e w2 ⟨v, rfl, hv, hb⟩
  replace HB := Lib.hid (HB.out.trans (hb.mono HB.out.size))
  replace HP := Lib.hid (HP.out.keep hb)
  replace HV := Lib.hid (HV.out.keep hb)
  replace H1 := Lib.hid (H1.out.keep hb)
  replace H4 := Lib.hid (H4.out.keep hb)
  clear hb
  obtain ⟨er, dr⟩ := g
  obtain ⟨p', c', rfl, hP5, hC5⟩ := hv
  obtain ⟨px', pc', rfl, _, _⟩ := (ownSl hP5).shape
  obtain ⟨cx', cc', rfl, _, _⟩ := (ownSl hC5).shape
  have h4 := H4.out
  have hsz5 := HB.out.size
  have HP5 := Lib.hid hP5
  have HC5 := Lib.hid hC5
  clear hP5 hC5
  go_wp2_with (refine Agg.gStoreB 4 [.slice px' dr.pages.length pc', .slice cx' dr.cache.length cc', .int .i64 dr.fuse, .bool dr.off] h4 rfl rfl rfl rfl rfl (by decide +kernel) rfl rfl (by simp [Value.oneCell']) (fun w14 hb14 hg14 => ?_))
  refine bodyPost_ret (results_row2 (m := 4) rfl hb14 rfl (by decide +kernel) rfl) rfl ⟨_, rfl, ⟨_, _, rfl, ?_, ?_⟩, ?_⟩
  · exact own_base (HP5.out.kept hg14 (own_off HP5.out l4)) hsz
  · exact own_base (HC5.out.kept hg14 (own_off HC5.out l4)) hsz
  · exact HB.out.trans (grown_below hg14 hsz5 (fun j hj => (by cases hj; omega)))
end Go.Proofs.Ytjnnnnolikbjcaa
end
