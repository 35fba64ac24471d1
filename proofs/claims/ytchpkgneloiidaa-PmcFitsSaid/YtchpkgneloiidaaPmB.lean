/-
  THE WALK OF LAYER 8's STATEMENT PmcNarrows.
-/
import Derived.Test.YtchpkgneloiidaaPmA
namespace Pm
/-- narrower bands -/
inductive Nar : List Bd → List Bd → Prop
  | nil : Nar [] []
  | cons (a b : Bd) (l m : List Bd) : a.1 = b.1 → a.2.1 ≤ b.2.1 → b.2.1 ≤ b.2.2 → b.2.2 ≤ a.2.2 → Nar l m → Nar (a :: l) (b :: m)
theorem Nar.refl : ∀ (l : List Bd), Okb l → Nar l l
  | [], _ => .nil
  | a :: l, h => .cons a a l l rfl (Int.le_refl _) (h a (by simp)).1 (Int.le_refl _) (Nar.refl l (fun b hb => h b (by simp [hb])))
theorem Nar.length {l m : List Bd} (h : Nar l m) : m.length = l.length := by
  induction h with
  | nil => rfl
  | cons _ _ _ _ _ _ _ _ _ ih => simp [ih]
theorem Nar.okb {l m : List Bd} (h : Nar l m) : Okb l → Okb m := by
  induction h with
  | nil => intro h; exact h
  | cons a b l m h1 h2 h3 h4 _ ih =>
    intro ho x hx
    rcases List.mem_cons.1 hx with rfl | hx
    · have := ho a (by simp); omega
    · exact ih (fun y hy => ho y (by simp [hy])) x hx
theorem Nar.chk {l m : List Bd} (h : Nar l m) : ∀ p, chk p l = true → chk p m = true := by
  induction h with
  | nil => intro p _; rfl
  | cons a b l m h1 h2 h3 h4 _ ih =>
    intro p hc
    simp only [Pm.chk, Bool.and_eq_true, okBd_iff] at hc ⊢
    refine ⟨by omega, ?_⟩
    rw [← h1]
    exact ih _ hc.2
theorem Nar.check {l m : List Bd} (h : Nar l m) (hc : checkB l = true) : checkB m = true := by
  simp only [checkB, Bool.and_eq_true, decide_eq_true_eq] at hc ⊢
  rw [h.length]
  exact ⟨hc.1, h.chk _ hc.2⟩
theorem Nar.thr {l m : List Bd} (h : Nar l m) (v : Int) : Thr m v → Thr l v := by
  induction h with
  | nil => intro h; exact h
  | cons a b l m h1 h2 h3 h4 _ ih =>
    intro ht
    rw [thr_cons] at ht ⊢
    exact ⟨by omega, ih ht.2⟩
theorem Nar.split : ∀ (a l : List Bd) (L : List Bd), Nar L (a ++ l) → ∃ L1 L2, L = L1 ++ L2 ∧ Nar L1 a ∧ Nar L2 l
  | [], l, L, h => ⟨[], L, rfl, .nil, h⟩
  | b :: a, l, L, h => by
    cases h with
    | cons c _ L' _ h1 h2 h3 h4 h5 =>
      obtain ⟨L1, L2, rfl, q1, q2⟩ := Nar.split a l L' h5
      exact ⟨c :: L1, L2, rfl, .cons c b L1 a h1 h2 h3 h4 q1, q2⟩
theorem Nar.part {m : List Bd} {n : Nat} (h : Part m n) : ∀ L, Nar L m → Part L n := by
  induction h with
  | nil => intro L h; cases h; exact .nil
  | cons a l n v h1 h2 _ ih =>
    intro L h
    obtain ⟨L1, L2, rfl, q1, q2⟩ := Nar.split a l L h
    refine Part.cons L1 L2 n v (fun e => h1 ?_) (q1.thr v h2) (ih L2 q2)
    subst e
    have := q1.length
    exact List.eq_nil_of_length_eq_zero (by simpa using this)
theorem Nar.set {l m : List Bd} (h : Nar l m) : ∀ (k : Nat) (hk : k < m.length) (b : Bd), b.1 = m[k].1 → m[k].2.1 ≤ b.2.1 → b.2.1 ≤ b.2.2 → b.2.2 ≤ m[k].2.2 → Nar l (m.set k b) := by
  induction h with
  | nil => intro k hk; simp at hk
  | cons a c l m h1 h2 h3 h4 h5 ih =>
    intro k hk b e1 e2 e3 e4
    cases k with
    | zero =>
      simp only [List.getElem_cons_zero] at e1 e2 e4
      exact .cons a b l m (by omega) (by omega) e3 (by omega) h5
    | succ k => exact .cons a c l _ h1 h2 h3 h4 (ih k (by simpa using hk) b e1 e2 e3 e4)
theorem narrows_law {l m : List Bd} (h : Nar l m) (ho : Okb l) : (cut l).length ≤ (cut m).length := cut_least (Nar.part (part_cut m.length m (Nat.le_refl _) (h.okb ho)) l h) ho
theorem flat_set (m : List Bd) (k : Nat) (h : k < m.length) (b : Bd) : (m.set k b).flatMap bdC = (m.take k).flatMap bdC ++ (bdC b ++ (m.drop (k + 1)).flatMap bdC) := by
  rw [List.set_eq_take_append_cons_drop, if_pos h, List.flatMap_append, List.flatMap_cons]
theorem flat_split (m : List Bd) (k : Nat) (h : k < m.length) : m.flatMap bdC = (m.take k).flatMap bdC ++ (bdC m[k] ++ (m.drop (k + 1)).flatMap bdC) := by
  conv => lhs; rw [← List.take_append_drop k m, List.drop_eq_getElem_cons h]
  rw [List.flatMap_append, List.flatMap_cons]
theorem flat_take (m : List Bd) (k : Nat) (h : k < m.length) : ((m.take k).flatMap bdC).length = k * 3 := by
  rw [Pg.flat_len bdC 3 _ (fun _ _ => rfl), List.length_take, Nat.min_eq_left (by omega)]
theorem flat_set1 (m : List Bd) (k : Nat) (h : k < m.length) (z : Int) : (m.flatMap bdC).set (k * 3 + 1) (.int .i64 z) = (m.set k (m[k].1, z, m[k].2.2)).flatMap bdC := by
  rw [flat_set m k h, flat_split m k h, List.set_append_right _ _ (by rw [flat_take m k h]; omega), flat_take m k h, show k * 3 + 1 - k * 3 = 1 by omega]
  rfl
theorem flat_set2 (m : List Bd) (k : Nat) (h : k < m.length) (z : Int) : (m.flatMap bdC).set (k * 3 + 2) (.int .i64 z) = (m.set k (m[k].1, m[k].2.1, z)).flatMap bdC := by
  rw [flat_set m k h, flat_split m k h, List.set_append_right _ _ (by rw [flat_take m k h]; omega), flat_take m k h, show k * 3 + 2 - k * 3 = 2 by omega]
  rfl
end Pm
namespace Agg
open Go Go.RowKit
variable {P : Program} {Q : Exit → Act → World → Prop} {o : Oper} {w : World} in
/-- a cell of a row of one's own is stored -/
theorem gStoreOwnC {ops : Array Oper} {rest : List Oper} {a : Act} {t : TypeId} {x y : Operand} {base : Nat} {e : TypeId} {g n cap sz : Nat} {xs : List Value} (k : Nat) (v : Value) (H : w.ownsRow base e sz (.slice (some ⟨g, 0, none⟩) n cap) n xs) (hk : k < xs.length)
    (hg : o.guard = none) (hd : o.dst = none) (ho : o.op = .store t x y) (hx : a.eval x = .pointer (some ⟨g, k, none⟩)) (hy : a.eval y = v)
    (ht : (P.info? t).map (·.size) = some 1) (hv : v.cells.toList = [v]) (h1 : v.oneCell' = true)
    (h : ∀ w', w'.ownsRow base e sz (.slice (some ⟨g, 0, none⟩) n cap) n (xs.set k v) → w.grownBy w' (some g) → wpList P ops Q rest a w') : wpList P ops Q (o :: rest) a w := by
  obtain ⟨r, hb, h2, h3, h4, h5⟩ := ownBlk H
  have hxl := H.1
  refine gStoreCell k v hb hg hd ho hx hy ht hv (by rw [List.length_append]; omega) h1 (fun w' hb' hg' => h w' ?_ hg')
  rw [spliced_set _ _ _ (by rw [List.length_append]; omega), List.set_append_left _ _ (by omega)] at hb'
  exact blkOwn hb' h2 h3 h4 (by simpa using h5) (by simpa using hxl)
end Agg
namespace Go.Proofs.Ytchpkgneloiidaa
open Go.ChangeShapes Go.WideShapes Go.ChangeAt Go.RowKit Agg Pg Pm
attribute [local go_sem] Oper.semAt_some

theorem fo_Less_0 : Agg.fieldOff Try.prog 51 0 = some 0 := by kernel_rfl
theorem fo_Less_1 : Agg.fieldOff Try.prog 51 1 = some 1 := by kernel_rfl
def leC (p : Int × Int) : List Value := [.int .i64 p.1, .int .i64 p.2]
theorem tiLe : TI Try.prog 49 51 2 16 (.agg #[.int .i64 0, .int .i64 0]) := ⟨by kernel_rfl, by kernel_rfl, rfl, by decide⟩
abbrev Les (w : World) (v : Value) (l : List (Int × Int)) : Prop := SlR w v 2 l.length (l.flatMap leC)
theorem good_less {w : World} {fuel : Nat} {v : Value} (h : Agg.Good Try.prog w fuel 49 [v]) : ∃ l : List (Int × Int), Les w v l ∧ ∀ r ∈ l, I64 r.1 ∧ I64 r.2 := by
  obtain ⟨l, h1, h2, h3⟩ := good_sl (α := Int × Int) Try.underlying49 (sz := 2) (by kernel_rfl) leC (fun r => I64 r.1 ∧ I64 r.2) (fun _ => rfl) (fun fu cs hg => by
    have hf := good_fits fu 5 51 [some .i64, some .i64] cs (by kernel_rfl) hg
    obtain ⟨x, r, rfl, ⟨a, rfl, ha⟩, hf2⟩ := hf.cons
    obtain ⟨x2, r2, rfl, ⟨a2, rfl, ha2⟩, hf3⟩ := hf2.cons
    rw [hf3.nil]
    have cv : ∀ {z : Int}, (Lit.int .i64 z).wf = true → I64 z := fun {z} hz => by
      simp [Lit.wf, IntKind.min, IntKind.max, IntKind.signed, IntKind.bits] at hz
      unfold I64; omega
    exact ⟨(a, a2), rfl, cv ha, cv ha2⟩) h
  exact ⟨l, h1, h2⟩
set_option maxHeartbeats 4000000 in
set_option maxRecDepth 100000 in
theorem narrows_walk (l : List Bd) (bs : List (Int × Int)) (v v2 : Value) (w : World) (hl : Bds w v l) (hb2 : Les w v2 bs) (hbs : ∀ r ∈ bs, I64 r.1 ∧ I64 r.2) :
    Calls Try.prog 5 #[v, v2] w fun e w' => e = .returned (.bool true) ∧ Below w.heap.size w w' := by
  obtain ⟨x, cap, rfl, _⟩ := SlR.shape hl
  obtain ⟨y, cap2, rfl, hcy, hcm⟩ := SlR.shape hb2
  have HL := Lib.hid hl
  have HS := Lib.hid hb2
  have HBS := Lib.hid hbs
  have hbl : (bs.length : Int) ≤ 9223372036854775807 := by unfold maxLen at hcm; omega
  clear hl hb2 hbs hcm
  have HB := Lib.hid (Below.refl w.heap.size w)
  go_enter Try.func5, Try.ntmps5
  go_wp2_with fail
  refine (wakes_any w).mono ?_
  rintro e w1 ⟨rfl, hb⟩
  replace HB := Lib.hid (HB.out.trans (hb.mono HB.out.size))
  replace HL := Lib.hid (HL.out.keep hb)
  replace HS := Lib.hid (HS.out.keep hb)
  clear hb
  go_wp2_with fail
  refine (few_any l _ w1 HL.out).mono ?_
  rintro e w2 ⟨u, rfl, hu, hb⟩
  replace HB := Lib.hid (HB.out.trans (hb.mono HB.out.size))
  replace HL := Lib.hid (HL.out.keep hb)
  replace HS := Lib.hid (HS.out.keep hb)
  clear hb
  have HU : Hid (Bds w2 u (few257 l)) := Lib.hid (own_bds hu)
  have hfl := few_le l
  clear hu HL
  generalize few257 l = L at *
  obtain ⟨ux, uc, rfl, huc, _⟩ := SlR.shape HU.out
  obtain ⟨q, hq⟩ : ∃ q, checkB L = q := ⟨_, rfl⟩
  have HQ := Lib.hid hq
  clear hq
  go_wp2_with fail
  refine (chkB_any L _ w2 HU.out q HQ.out).mono ?_
  rintro e w3 ⟨rfl, hb⟩
  replace HB := Lib.hid (HB.out.trans (hb.mono HB.out.size))
  replace HU := Lib.hid (HU.out.keep hb)
  replace HS := Lib.hid (HS.out.keep hb)
  clear hb
  cases q
  · go_wp2_with fail
    go_ret
    exact ⟨rfl, HB.out⟩
  · have hck := check_len HQ.out
    have HOK := Lib.hid hck.2.2.2
    have hL1 := hck.1
    have hL2 := hck.2.1
    clear hck
    go_wp2_with fail
    obtain ⟨wZ, hwZ⟩ : ∃ x, x = w3 := ⟨_, rfl⟩
    subst hwZ
    have HUZ := HU
    have HSZ := HS
    have HBZ := HB
    refine (cloneB_any L _ wZ HU.out (by omega)).mono ?_
    rintro e wC ⟨u2, rfl, ho, hbC⟩
    obtain ⟨g, cg, rfl⟩ := ownPos ho (by omega)
    have HO := Lib.hid ho
    have HC := Lib.hid hbC
    clear ho hbC HU HS HB
    go_wp2_with fail
    go_loopw [25] (fun ix wr => ∃ (k : Nat) (N : List Bd), k ≤ L.length ∧ ix = .int .i64 k ∧ Nar L N ∧ wr.ownsRow wZ.heap.size 36 3 (.slice (some ⟨g, 0, none⟩) L.length cg) L.length (N.flatMap bdC) ∧ Below wZ.heap.size wZ wr) (fun ix _ => L.length - (intOf ix).toNat)
    case atStart => exact ⟨0, L, by omega, rfl, Nar.refl L HOK.out, HO.out, HC.out⟩
    case round =>
      obtain ⟨k, N, hk, rfl, hn, ho, hb⟩ := hrel
      have HN := Lib.hid hn
      have HO2 := Lib.hid ho
      have HB2 := Lib.hid hb
      clear hn ho hb HO HC
      obtain ⟨wA, hwA⟩ : ∃ x, x = wr := ⟨_, rfl⟩
      subst hwA
      by_cases hlt : k < L.length
      · by_cases hby : k < bs.length
        · have hnl := HN.out.length
          have hkn : k < N.length := by omega
          have hokn := HN.out.okb HOK.out
          have hnb := hokn _ (List.getElem_mem hkn)
          have hN3 : Bds wA (.slice (some ⟨g, 0, none⟩) L.length cg) N := by have h := ownSl HO2.out; show SlR _ _ _ _ _; rw [hnl]; exact h
          have hrow := flat_at bdC 3 (by decide) hN3 (fun b hb => rfl) hkn
          have hS3 := SlR.keep HSZ.out HB2.out
          obtain ⟨b2, o2, cap', hve, _, _, _, _⟩ := SlR.pos hS3 (by decide) (by omega)
          simp only [Value.slice.injEq, true_and] at hve
          obtain ⟨rfl, rfl⟩ := hve
          have hrw2 := fun W (hW : Below wZ.heap.size wZ W) => flat_at leC 2 (by decide) (SlR.keep HSZ.out hW) (fun b hb => rfl) hby
          have hbi := HBS.out _ (List.getElem_mem hby)
          have hst := HN.out.set k hkn
          have hf1 := fun z => flat_set1 N k hkn z
          have hfl2 : (N.flatMap bdC).length = L.length * 3 := by rw [flat_len bdC 3 _ (fun _ _ => rfl), hnl]
          obtain ⟨⟨t, lo, hi⟩, hr⟩ : ∃ r, N[k] = r := ⟨_, rfl⟩
          obtain ⟨⟨up, dn⟩, hr2⟩ : ∃ r, bs[k] = r := ⟨_, rfl⟩
          rw [hr] at hrow hnb hst hf1
          rw [hr2] at hrw2 hbi
          simp only at hnb hbi hf1 hst
          obtain ⟨n1, n2, n3⟩ := hnb
          unfold maxB at n2 n3
          obtain ⟨⟨i1, i2⟩, i3, i4⟩ := hbi
          have HC1 : Hid (wA.cell? ⟨g, 0 + (k : Int).toNat * 3 + 1, none⟩ = some (.int .i64 lo)) := Lib.hid (hrow 1 _ rfl)
          have HC2 : Hid (wA.cell? ⟨g, 0 + (k : Int).toNat * 3 + 2, none⟩ = some (.int .i64 hi)) := Lib.hid (hrow 2 _ rfl)
          have HU1 : Hid (∀ W, Below wZ.heap.size wZ W → W.cell? ⟨b2, o2 + (k : Int).toNat * 2 + 0, none⟩ = some (.int .i64 up)) := Lib.hid (fun W hW => hrw2 W hW 0 _ rfl)
          have HU2 : Hid (∀ W, Below wZ.heap.size wZ W → W.cell? ⟨b2, o2 + (k : Int).toNat * 2 + 1, none⟩ = some (.int .i64 dn)) := Lib.hid (fun W hW => hrw2 W hW 1 _ rfl)
          have HST := Lib.hid hst
          have HF1 := Lib.hid hf1
          have HKN := Lib.hid hkn
          have HNE := Lib.hid hr
          clear hrow hN3 hS3 hrw2 hst hf1 hr hr2 hokn
          obtain ⟨r1, hr1, hr1b⟩ := rem_lt (z := max up 0) (m := hi - lo + 1) (by omega) (by omega)
          have HR1 := Lib.hid hr1
          obtain ⟨r2, hr2, hr2b⟩ := rem_lt (z := max dn 0) (m := hi - lo - r1 + 1) (by omega) (by omega)
          have HR2 := Lib.hid hr2
          have m1 : 0 ≤ max up 0 ∧ max up 0 ≤ 9223372036854775807 := by omega
          have m2 : 0 ≤ max dn 0 ∧ max dn 0 ≤ 9223372036854775807 := by omega
          clear hr1 hr2
          have HFZ : Hid (From wZ wA) := Lib.hid HB2.out
          have HB := Lib.hid (HBZ.out.trans (HB2.out.mono HBZ.out.size))
          clear HB2
          go_upto_region 11 with (fail)
          refine Agg.chainR 12 (by kernel_rfl) (by kernel_rfl) ?_
          simp only [List.take_succ_cons, List.take_zero, List.drop_succ_cons, List.drop_zero]
          refine Agg.chMove rfl rfl rfl rfl ?_
          refine Agg.chMove rfl rfl rfl rfl ?_
          refine Agg.chIA tiBd (by omega) (by omega) rfl rfl rfl rfl rfl ?_
          refine Agg.chFA fo_Band_2 rfl rfl rfl rfl ?_
          refine Agg.chLoad rfl rfl rfl rfl (by decide +kernel) HC2.out ?_
          refine Agg.chMove rfl rfl rfl rfl ?_
          refine Agg.chMove rfl rfl rfl rfl ?_
          refine Agg.chIA tiBd (by omega) (by omega) rfl rfl rfl rfl rfl ?_
          refine Agg.chFA fo_Band_1 rfl rfl rfl rfl ?_
          refine Agg.chLoad rfl rfl rfl rfl (by decide +kernel) HC1.out ?_
          refine Agg.chAr64 rfl rfl rfl rfl (by omega) (by omega) rfl rfl ?_
          refine Agg.chAssign rfl rfl rfl rfl ?_
          refine Agg.chEnd ?_
          intro vs w21 hb hf
          simp only [List.reverse, List.reverseAux, Agg.Facts] at hf
          obtain _ := hf
          simp only [List.reverse, List.reverseAux, Agg.fill, List.set_cons_succ, List.set_cons_zero]
          refine Agg.wpNil ?_
          have HC1W : Hid (w21.cell? ⟨g, 0 + (k : Int).toNat * 3 + 1, none⟩ = some (.int .i64 lo)) := Lib.hid (cell_keep hb HC1.out)
          have HC2W : Hid (w21.cell? ⟨g, 0 + (k : Int).toNat * 3 + 2, none⟩ = some (.int .i64 hi)) := Lib.hid (cell_keep hb HC2.out)
          replace HB := Lib.hid (HB.out.trans (hb.mono HB.out.size))
          replace HO2 := Lib.hid (HO2.out.keep hb)
          replace HFZ := Lib.hid (HFZ.out.keep hb)
          clear hb HC1 HC2
          go_upto_region 12 with (fail)
          have HUA := Lib.hid (HU1.out w21 HFZ.out)
          refine Agg.listR 10 (by kernel_rfl) ?_
          simp only [List.take_succ_cons, List.take_zero, List.drop_succ_cons, List.drop_zero]
          refine Agg.chMove rfl rfl rfl rfl ?_
          refine Agg.chMove rfl rfl rfl rfl ?_
          refine Agg.chIA tiLe (by omega) (by omega) rfl rfl rfl rfl rfl ?_
          refine Agg.chFA fo_Less_0 rfl rfl rfl rfl ?_
          refine Agg.chLoad rfl rfl rfl rfl (by decide +kernel) HUA.out ?_
          refine Agg.chMax2 (max up 0) rfl rfl rfl rfl rfl rfl ?_
          refine Agg.chMove rfl rfl rfl rfl ?_
          refine Agg.chAr64 rfl rfl rfl rfl (by omega) (by omega) rfl rfl ?_
          refine Agg.chRem (r1 : Int) rfl rfl rfl (by omega) HR1.out rfl rfl ?_
          refine Agg.chAssign rfl rfl rfl rfl ?_
          refine Agg.chEnd ?_
          intro vs w22 hb hf
          simp only [List.reverse, List.reverseAux, Agg.Facts] at hf
          obtain _ := hf
          simp only [List.reverse, List.reverseAux, Agg.fill, List.set_cons_succ, List.set_cons_zero]
          show Exit.then _ _ Exit.normal _ _
          have HC1V : Hid (w22.cell? ⟨g, 0 + (k : Int).toNat * 3 + 1, none⟩ = some (.int .i64 lo)) := Lib.hid (cell_keep hb HC1W.out)
          have HC2V : Hid (w22.cell? ⟨g, 0 + (k : Int).toNat * 3 + 2, none⟩ = some (.int .i64 hi)) := Lib.hid (cell_keep hb HC2W.out)
          replace HB := Lib.hid (HB.out.trans (hb.mono HB.out.size))
          replace HO2 := Lib.hid (HO2.out.keep hb)
          replace HFZ := Lib.hid (HFZ.out.keep hb)
          clear hb HC1W HC2W
          clear HUA HU1 HR1
          go_upto_region 13 with (fail)
          refine Agg.listR 9 (by kernel_rfl) ?_
          simp only [List.take_succ_cons, List.take_zero, List.drop_succ_cons, List.drop_zero]
          refine Agg.chMove rfl rfl rfl rfl ?_
          refine Agg.chMove rfl rfl rfl rfl ?_
          refine Agg.chIA tiBd (by omega) (by omega) rfl rfl rfl rfl rfl ?_
          refine Agg.chFA fo_Band_1 rfl rfl rfl rfl ?_
          refine Agg.chLoad rfl rfl rfl rfl (by decide +kernel) HC1V.out ?_
          refine Agg.chMove rfl rfl rfl rfl ?_
          refine Agg.chAr64 rfl rfl rfl rfl (by omega) (by omega) rfl rfl ?_
          refine Agg.chIA tiBd (by omega) (by omega) rfl rfl rfl rfl rfl ?_
          refine Agg.chFA fo_Band_1 rfl rfl rfl rfl ?_
          refine Agg.chEnd ?_
          intro vs w23 hb hf
          simp only [List.reverse, List.reverseAux, Agg.Facts] at hf
          obtain _ := hf
          simp only [List.reverse, List.reverseAux, Agg.fill, List.set_cons_succ, List.set_cons_zero]
          replace HB := Lib.hid (HB.out.trans (hb.mono HB.out.size))
          replace HO2 := Lib.hid (HO2.out.keep hb)
          replace HFZ := Lib.hid (HFZ.out.keep hb)
          clear hb HC1V HC2V
          have hk3 : k * 3 + 1 < (N.flatMap bdC).length := by omega
          refine Agg.gStoreOwnC (k * 3 + 1) (.int .i64 (lo + r1)) HO2.out hk3 rfl rfl rfl (by show Value.pointer _ = _; congr 3; omega) rfl (by kernel_rfl) rfl rfl (fun wS hoS hgS => ?_)
          rw [HF1.out] at hoS
          have HOS := Lib.hid hoS
          have HGS := Lib.hid hgS
          clear hoS hgS
          have hgb := own_block HO2.out
          replace HB := Lib.hid (HB.out.trans (grown_below HGS.out HB.out.size (fun x hx => Nat.le_trans HBZ.out.size (hgb x hx))))
          replace HFZ : Hid (From wZ wS) := Lib.hid (HFZ.out.trans (grown_below HGS.out HFZ.out.size hgb))
          clear hgb HO2 HGS hk3
          obtain ⟨N1, hN1⟩ : ∃ x, x = N.set k (t, lo + r1, hi) := ⟨_, rfl⟩
          rw [← hN1] at HOS
          have hn1l : N1.length = L.length := by rw [hN1, List.length_set]; exact hnl
          have hkn1 : k < N1.length := by omega
          have hr1' : N1[k] = (t, lo + (r1 : Int), hi) := by subst hN1; simp
          have hN3 : Bds wS (.slice (some ⟨g, 0, none⟩) L.length cg) N1 := by have h := ownSl HOS.out; show SlR _ _ _ _ _; rw [hn1l]; exact h
          have hrow := flat_at bdC 3 (by decide) hN3 (fun b hb => rfl) hkn1
          rw [hr1'] at hrow
          have HC2 : Hid (wS.cell? ⟨g, 0 + (k : Int).toNat * 3 + 2, none⟩ = some (.int .i64 hi)) := Lib.hid (hrow 2 _ rfl)
          have HUA := Lib.hid (HU2.out wS HFZ.out)
          have hf2 := fun z => flat_set2 N1 k hkn1 z
          rw [hr1'] at hf2
          simp only at hf2
          have hset : ∀ z, N1.set k (t, lo + (r1 : Int), z) = N.set k (t, lo + (r1 : Int), z) := fun z => by subst hN1; rw [List.set_set]
          have HF2 := Lib.hid fun z => (hf2 z).trans (by rw [hset])
          have hfl3 : (N1.flatMap bdC).length = L.length * 3 := by rw [flat_len bdC 3 _ (fun _ _ => rfl), hn1l]
          clear hN3 hrow hr1' hf2 hset hN1 HU2
          show Exit.then _ _ Exit.normal _ _
          go_upto_region 14 with (fail)
          refine Agg.chainR 19 (by kernel_rfl) (by kernel_rfl) ?_
          simp only [List.take_succ_cons, List.take_zero, List.drop_succ_cons, List.drop_zero]
          refine Agg.chMove rfl rfl rfl rfl ?_
          refine Agg.chMove rfl rfl rfl rfl ?_
          refine Agg.chIA tiBd (by omega) (by omega) rfl rfl rfl rfl rfl ?_
          refine Agg.chFA fo_Band_2 rfl rfl rfl rfl ?_
          refine Agg.chLoad rfl rfl rfl rfl (by decide +kernel) HC2.out ?_
          refine Agg.chMove rfl rfl rfl rfl ?_
          refine Agg.chMove rfl rfl rfl rfl ?_
          refine Agg.chIA tiLe (by omega) (by omega) rfl rfl rfl rfl rfl ?_
          refine Agg.chFA fo_Less_1 rfl rfl rfl rfl ?_
          refine Agg.chLoad rfl rfl rfl rfl (by decide +kernel) HUA.out ?_
          refine Agg.chMax2 (max dn 0) rfl rfl rfl rfl rfl rfl ?_
          refine Agg.chMove rfl rfl rfl rfl ?_
          refine Agg.chMove rfl rfl rfl rfl ?_
          refine Agg.chAr64 rfl rfl rfl rfl (by omega) (by omega) rfl rfl ?_
          refine Agg.chAr64 rfl rfl rfl rfl (by omega) (by omega) rfl rfl ?_
          refine Agg.chRem (r2 : Int) rfl rfl rfl (by omega) HR2.out rfl rfl ?_
          refine Agg.chAr64 rfl rfl rfl rfl (by omega) (by omega) rfl rfl ?_
          refine Agg.chIA tiBd (by omega) (by omega) rfl rfl rfl rfl rfl ?_
          refine Agg.chFA fo_Band_2 rfl rfl rfl rfl ?_
          refine Agg.chEnd ?_
          intro vs w24 hb hf
          simp only [List.reverse, List.reverseAux, Agg.Facts] at hf
          obtain _ := hf
          simp only [List.reverse, List.reverseAux, Agg.fill, List.set_cons_succ, List.set_cons_zero]
          replace HB := Lib.hid (HB.out.trans (hb.mono HB.out.size))
          replace HOS := Lib.hid (HOS.out.keep hb)
          replace HFZ := Lib.hid (HFZ.out.keep hb)
          clear hb HC2 HUA
          have hk3 : k * 3 + 2 < (N1.flatMap bdC).length := by omega
          refine Agg.gStoreOwnC (k * 3 + 2) (.int .i64 (hi - r2)) HOS.out hk3 rfl rfl rfl (by show Value.pointer _ = _; congr 3; omega) rfl (by kernel_rfl) rfl rfl (fun wT hoS hgS => ?_)
          rw [HF2.out] at hoS
          have HOT := Lib.hid hoS
          have hgb := own_block HOS.out
          replace HFZ := Lib.hid (HFZ.out.trans (grown_below hgS HFZ.out.size hgb))
          clear hoS hgS hgb HOS HB
          refine Agg.wpNil ?_
          go_wp2_with fail
          exact ⟨⟨k + 1, _, by omega, by go_num, HST.out (t, lo + r1, hi - r2) rfl (by simp only; omega) (by simp only; omega) (by simp only; omega), HOT.out, HFZ.out⟩, by simp [intOf]; omega⟩
        · have hbyb : ¬ (k : Int) < bs.length := by omega
          go_wp2_with fail
          exact ⟨⟨k + 1, N, by omega, by go_num, HN.out, HO2.out, HB2.out⟩, by simp [intOf]; omega⟩
      · obtain rfl : k = L.length := by omega
        have hU3 := SlR.keep HUZ.out HB2.out
        have hnl := HN.out.length
        have hN3 : Bds wA (.slice (some ⟨g, 0, none⟩) L.length cg) N := by have h := ownSl HO2.out; show SlR _ _ _ _ _; rw [hnl]; exact h
        have HU := Lib.hid hU3
        have HNB := Lib.hid hN3
        have HB := Lib.hid (HBZ.out.trans (HB2.out.mono HBZ.out.size))
        have hlaw := narrows_law HN.out HOK.out
        have HQN := Lib.hid (HN.out.check HQ.out)
        clear hU3 hN3 HO2 HB2
        go_wp2_with fail
        refine (cut_any L _ wA HU.out true HQ.out).mono ?_
        rintro e w61 ⟨c1, rfl, hc1, hb⟩
        replace HB := Lib.hid (HB.out.trans (hb.mono HB.out.size))
        replace HU := Lib.hid (HU.out.keep hb)
        replace HNB := Lib.hid (HNB.out.keep hb)
        clear hb
        obtain ⟨c1x, c1c, rfl, _, _⟩ := (ownSl (CutV.yes.1 hc1)).shape
        clear hc1
        go_wp2_with fail
        refine (cut_any N _ w61 HNB.out true HQN.out).mono ?_
        rintro e w62 ⟨c2, rfl, hc2, hb⟩
        replace HB := Lib.hid (HB.out.trans (hb.mono HB.out.size))
        replace HU := Lib.hid (HU.out.keep hb)
        replace HNB := Lib.hid (HNB.out.keep hb)
        clear hb
        obtain ⟨c2x, c2c, rfl, _, _⟩ := (ownSl (CutV.yes.1 hc2)).shape
        clear hc2
        have hlaw2 : ((cut N).length : Int) ≥ (cut L).length := by omega
        generalize (cut N).length = n1 at *
        generalize (cut L).length = n2 at *
        go_wp2_with fail
        go_ret
        exact ⟨rfl, HB.out⟩
theorem PmcNarrows_walk (v : Value) (f : Nat) (v2 : Value) (f2 : Nat) (w : World) (h : Agg.Good Try.prog w f 22 [v]) (h2 : Agg.Good Try.prog w f2 49 [v2]) :
    Calls Try.prog 5 #[v, v2] w fun e w' => e = .returned (.bool true) ∧ Below w.heap.size w w' := by
  obtain ⟨l, h3, h4⟩ := good_bands h
  obtain ⟨bs, h5, h6⟩ := good_less h2
  exact narrows_walk l bs v v2 w h3 h5 h6
end Go.Proofs.Ytchpkgneloiidaa
