/-
  THE DOCUMENT's NUMBERS (layer 1): Div.
-/
import Derived.Test.YtchpkgneloiidaaPmWH
import Derived.Test.YtchpkgneloiidaaPmWE
section
namespace Agg
open Go Go.ChangeShapes Go.WideShapes Go.ChangeAt Go.RowKit
theorem results_cc {P : Program} {fn : Func} {p q : Tmp} {ty ty2 : TypeId} (h : fn.results = #[.cell p ty, .cell q ty2]) {tmps : Array Value} {w : World} {m g m2 g2 : Nat} {T T2 : TypeId} {cs cs2 : List Value} (H : Blk w g T cs) (H2 : Blk w g2 T2 cs2) (hp : tmps.getD p undef = .pointer (some ⟨g, 0, none⟩)) (hq : tmps.getD q undef = .pointer (some ⟨g2, 0, none⟩)) (ht : aggT P ty m = true) (ht2 : aggT P ty2 m2 = true) (hm : cs.length = m) (hm2 : cs2.length = m2) :
    (results fn tmps).run P w = .ok (.tuple #[.agg cs.toArray, .agg cs2.toArray]) w := by
  have hp' : tmps[p]?.getD undef = .pointer (some ⟨g, 0, none⟩) := by simpa using hp
  have hq' : tmps[q]?.getD undef = .pointer (some ⟨g2, 0, none⟩) := by simpa using hq
  simp [results, h, hp', hq', asAddr, run_row H ht hm, run_row H2 ht2 hm2]
end Agg
namespace Go.Proofs.Ytchpkgneloiidaa
open Go.ChangeShapes Go.WideShapes Go.ChangeAt Go.RowKit Agg Wd

theorem div_plain (a : Int) (m : Nat) (hm : 0 < m) :
    (¬ a < 0 → ((a.natAbs / m : Nat) : Int) = a / m ∧ ((a.natAbs % m : Nat) : Int) = a % m) ∧
    (a < 0 → a.natAbs % m = 0 → -((a.natAbs / m : Nat) : Int) = a / m ∧ (0 : Int) = a % m) ∧
    (a < 0 → 0 < a.natAbs % m → -((a.natAbs / m + 1 : Nat) : Int) = a / m ∧ ((m - a.natAbs % m : Nat) : Int) = a % m) := by
  have hm' : (0 : Int) < m := by omega
  refine ⟨fun h => ?_, fun h h0 => ?_, fun h h0 => ?_⟩
  · obtain ⟨n, rfl⟩ : ∃ n : Nat, a = n := ⟨a.natAbs, by omega⟩
    rw [Int.natAbs_natCast]
    exact ⟨by simp, by simp⟩
  · obtain ⟨n, rfl⟩ : ∃ n : Nat, a = -(n : Int) := ⟨a.natAbs, by omega⟩
    rw [Int.natAbs_neg, Int.natAbs_natCast] at h0 ⊢
    have h1 := Nat.div_add_mod n m
    rw [h0] at h1
    have h2 : (n : Int) = m * ((n / m : Nat) : Int) := by rw [← Int.natCast_mul]; omega
    have h3 : -(n : Int) = m * -((n / m : Nat) : Int) := by rw [Int.mul_neg]; omega
    constructor
    · rw [h3, Int.mul_ediv_cancel_left _ (by omega)]
    · rw [h3, Int.mul_emod_right]
  · obtain ⟨n, rfl⟩ : ∃ n : Nat, a = -(n : Int) := ⟨a.natAbs, by omega⟩
    rw [Int.natAbs_neg, Int.natAbs_natCast] at h0 ⊢
    have h1 := Nat.div_add_mod n m
    have h4 := Nat.mod_lt n hm
    have h2 : (n : Int) = m * ((n / m : Nat) : Int) + ((n % m : Nat) : Int) := by rw [← Int.natCast_mul]; omega
    have h3 : -(n : Int) = ((m - n % m : Nat) : Int) + m * -((n / m + 1 : Nat) : Int) := by
      rw [Int.mul_neg, Int.natCast_add, Int.mul_add]; omega
    constructor
    · rw [h3, Int.add_mul_ediv_left _ _ (by omega), Int.ediv_eq_zero_of_lt (by omega) (by omega), Int.zero_add]
    · rw [h3, Int.add_mul_emod_self_left, Int.emod_eq_of_lt (by omega) (by omega)]
theorem div_len {n m : Nat} {k : Nat} (h : (digs n).length ≤ k) : (digs (n / m)).length ≤ k := digs_le_len (Nat.div_le_self _ _) h
set_option maxHeartbeats 4000000 in
set_option maxRecDepth 100000 in
theorem Div_any (a : Int) (m : Nat) (hm : 0 < m) (ha : (digs a.natAbs).length ≤ 400) (hml : (digs m).length ≤ 400) (u v : Value) (w : World) (hu : NumV a u w) (hv : NumV (m : Int) v w) :
    Calls Try.prog 44 #[u, v] w fun e w' => ∃ z y, e = .returned (.tuple #[z, y]) ∧ NumV (a / m) z w' ∧ NumV (a % m) y w' ∧ Below w.heap.size w w' := by
  obtain ⟨s1, rfl, hs1⟩ := hu
  obtain ⟨s2, rfl, hs2⟩ := hv
  rw [Int.natAbs_natCast] at hs2
  obtain ⟨x1, c1, rfl, _, _⟩ := SlR.shape hs1
  obtain ⟨x2, c2, rfl, _, _⟩ := SlR.shape hs2
  have HS1 : Hid (NB w (.slice x1 (digs a.natAbs).length c1) a.natAbs) := Lib.hid hs1
  have HS2 : Hid (NB w (.slice x2 (digs m).length c2) m) := Lib.hid hs2
  clear hs1 hs2
  have HD := Lib.hid (div_plain a m hm)
  have HP := Lib.hid (fun u v W => wparts_any a.natAbs m hm ha hml u v W)
  have HQL := Lib.hid (div_len (m := m) ha)
  have HRL : Hid ((digs (a.natAbs % m)).length ≤ 400) := Lib.hid (digs_le_len (Nat.le_of_lt (Nat.mod_lt _ hm)) hml)
  have HRM : Hid (a.natAbs % m ≤ m) := Lib.hid (Nat.le_of_lt (Nat.mod_lt _ hm))
  have HML := Lib.hid hml
  obtain ⟨la, hla⟩ : ∃ la, la = (digs a.natAbs).length := ⟨_, rfl⟩
  obtain ⟨lb, hlb⟩ : ∃ lb, lb = (digs m).length := ⟨_, rfl⟩
  rw [← hla] at HS1 ⊢
  rw [← hlb] at HS2 ⊢
  clear hla hlb ha hml hm
  have hf2 : decide ((m : Int) < 0) = false := by simp
  rw [hf2]
  clear hf2
  obtain ⟨f1, hf1⟩ : ∃ f1, decide (a < 0) = f1 := ⟨_, rfl⟩
  rw [hf1]
  have HF1 := Lib.hid hf1
  clear hf1
  obtain ⟨Q, hQ⟩ : ∃ Q, a.natAbs / m = Q := ⟨_, rfl⟩
  obtain ⟨R, hR⟩ : ∃ R, a.natAbs % m = R := ⟨_, rfl⟩
  rw [hQ] at HD HP HQL
  rw [hR] at HD HP HRL HRM
  clear hQ hR
  obtain ⟨dq, hdq⟩ : ∃ z, a / (m : Int) = z := ⟨_, rfl⟩
  obtain ⟨dr, hdr⟩ : ∃ z, a % (m : Int) = z := ⟨_, rfl⟩
  rw [hdq, hdr] at HD ⊢
  clear hdq hdr
  have HB := Lib.hid (Below.refl w.heap.size w)
  go_enter Try.func44, Try.ntmps44
  go_wp2_with fail
  refine Agg.calls_at fun w1 hw1 => ?_
  have hb : Below w.heap.size w w1 := by rw [hw1.out]; repeat (first | exact Below.refl _ _ | refine Agg.bel_drew ?_ | refine Agg.bel_alloc ?_ _)
  replace HB := Lib.hid (HB.out.trans (hb.mono HB.out.size))
  replace HS1 := Lib.hid (HS1.out.keep hb)
  replace HS2 := Lib.hid (HS2.out.keep hb)
  clear hb
  have H2 : Hid (Blk w1 w.heap.size 83 [.bool f1, .slice x1 la c1]) := by show Blk _ _ _ _; rw [hw1.out]; exact (((Blk.new w 83 #[.bool f1, .slice x1 la c1]).al _).al _).al _
  have H3 : Hid (Blk w1 (w.heap.size + 1) 83 [.bool false, .slice x2 lb c2]) := by show Blk _ _ _ _; rw [hw1.out]; exact ((Blk.newAt (w.alloc _) 83 #[.bool false, .slice x2 lb c2] _ (by simp)).al _).al _
  have H4 : Hid (Blk w1 (w.heap.size + 2) 83 [.bool false, .slice none 0 0]) := by show Blk _ _ _ _; rw [hw1.out]; exact (Blk.newAt ((w.alloc _).alloc _) 83 #[.bool false, .slice none 0 0] _ (by simp)).al _
  have H5 : Hid (Blk w1 (w.heap.size + 3) 83 [.bool false, .slice none 0 0]) := by show Blk _ _ _ _; rw [hw1.out]; exact Blk.newAt (((w.alloc _).alloc _).alloc _) 83 #[.bool false, .slice none 0 0] _ (by simp)
  clear hw1
  refine (HP.out _ _ w1 HS1.out HS2.out).mono ?_
  rintro e w2 ⟨z, y, rfl, hz, hy, hb⟩
  replace HB := Lib.hid (HB.out.trans (hb.mono HB.out.size))
  replace HS1 := Lib.hid (HS1.out.keep hb)
  replace HS2 := Lib.hid (HS2.out.keep hb)
  replace H2 := Lib.hid (H2.out.keep hb)
  replace H3 := Lib.hid (H3.out.keep hb)
  replace H4 := Lib.hid (H4.out.keep hb)
  replace H5 := Lib.hid (H5.out.keep hb)
  clear hb
  obtain ⟨xz, cz, rfl, _, _⟩ := SlR.shape hz
  obtain ⟨xy, cy, rfl, _, _⟩ := SlR.shape hy
  have HZ : Hid (NB w2 (.slice xz (digs Q).length cz) Q) := Lib.hid hz
  have HY : Hid (NB w2 (.slice xy (digs R).length cy) R) := Lib.hid hy
  clear hz hy HP HS1
  have HR0 : Hid (0 < (digs R).length ↔ 0 < R) := Lib.hid (by
    constructor
    · intro h
      rcases Nat.eq_zero_or_pos R with h0 | h0
      · subst h0; rw [digs_zero] at h; simp at h
      · exact h0
    · intro h; rw [digs_pos h]; simp)
  obtain ⟨lz, hlz⟩ : ∃ n, n = (digs Q).length := ⟨_, rfl⟩
  obtain ⟨ly, hly⟩ : ∃ n, n = (digs R).length := ⟨_, rfl⟩
  rw [← hlz] at HZ ⊢
  rw [← hly] at HY HR0 ⊢
  clear hlz hly
  have xH2_0 := H2.out.cell 0
  have xH2_1 := H2.out.cell 1
  have lH2 := H2.out.lt
  simp only [List.getElem?_cons_zero, List.getElem?_cons_succ] at xH2_0 xH2_1
  by_cases hneg : f1 = true ∧ 0 < R
  · obtain ⟨rfl, hRp⟩ := hneg
    have hly : 0 < ly := HR0.out.2 hRp
    have HE := Lib.hid (HD.out.2.2 (by have := HF1.out; simpa using this) hRp)
    clear hRp
    go_upto_region 3 with (fail)
    clear xH2_0 xH2_1 lH2
    clear hly
    refine Agg.chainR 9 (by kernel_rfl) (by kernel_rfl) ?_
    simp only [List.take_succ_cons, List.take_zero, List.drop_succ_cons, List.drop_zero]
    refine Agg.chMove rfl rfl rfl rfl ?_
    refine Agg.chCallG Try.func54 rfl (by kernel_rfl) (fun v w => NB w v 1) (NB.stable _) rfl rfl rfl rfl (fun W hb => size_any 1 (by decide) W) ?_
    refine Agg.chCall_po Try.func53 rfl (by kernel_rfl) (.op (fun v w => NB w v (Q + 1))) (NB.stable _) 1 rfl rfl rfl rfl rfl rfl rfl (fun u W hb hg => plus_any Q 1 (by have := HQL.out; omega) (Nat.le_trans (digs_len (n := 1) (k := 1) (by decide)) (by decide)) _ u W (SlR.keep HZ.out hb) hg) ?_
    refine Agg.chCall_po Try.func52 rfl (by kernel_rfl) (.op (NumV dq)) (NumV.stable _) 2 rfl rfl rfl rfl rfl rfl rfl (fun u W hb hg => by have h := made_any true (Q + 1) (by have := digs_add_len (k := 400) HQL.out (Nat.le_trans (digs_len (n := 1) (k := 1) (by decide)) (by decide)); omega) u W hg; rw [show (bif true then -((Q + 1 : Nat) : Int) else ((Q + 1 : Nat) : Int)) = dq from HE.out.1] at h; exact h) ?_
    refine Agg.chFA fo_Num_1 rfl rfl rfl rfl ?_
    refine Agg.chLoadB H3.out (by decide +kernel) rfl rfl (by rfl) rfl rfl ?_
    refine Agg.chMove rfl rfl rfl rfl ?_
    refine Agg.chCallG Try.func55 rfl (by kernel_rfl) (fun v w => NB w v (m - R)) (NB.stable _) rfl rfl rfl rfl (fun W hb => minus_any m R HRM.out (by have := HML.out; omega) (by have := HRL.out; omega) _ _ W (SlR.keep HS2.out hb) (SlR.keep HY.out hb)) ?_
    refine Agg.chCall_po Try.func52 rfl (by kernel_rfl) (.op (NumV dr)) (NumV.stable _) 7 rfl rfl rfl rfl rfl rfl rfl (fun u W hb hg => by have h := made_any false (m - R) (Nat.le_trans (digs_le_len (Nat.sub_le _ _) HML.out) (by omega)) u W hg; rw [show (bif false then -((m - R : Nat) : Int) else ((m - R : Nat) : Int)) = dr from HE.out.2] at h; exact h) ?_
    refine Agg.chEnd ?_
    intro vs w3 hb hf
    simp only [List.reverse, List.reverseAux, Agg.Facts] at hf
    obtain ⟨_, _, ⟨t1, hv1, hn1⟩, _, ⟨t2, hv2, hn2⟩, _⟩ := hf
    simp only [List.reverse, List.reverseAux, Agg.fill, List.set_cons_succ, List.set_cons_zero, hv1, hv2]
    clear hv1 hv2
    have h4 := H4.out.keep hb
    have h5 := H5.out.keep hb
    have hsz := HB.out.size
    replace HB := Lib.hid (HB.out.trans (hb.mono hsz))
    clear hb
    obtain ⟨y1, e1, rfl, _, _⟩ := SlR.shape hn1
    obtain ⟨y2, e2, rfl, _, _⟩ := SlR.shape hn2
    obtain ⟨q1, hq1⟩ : ∃ f, decide (dq < 0) = f := ⟨_, rfl⟩
    obtain ⟨q2, hq2⟩ : ∃ f, decide (dr < 0) = f := ⟨_, rfl⟩
    rw [hq1, hq2]
    have HQ1 := Lib.hid hq1
    have HQ2 := Lib.hid hq2
    clear hq1 hq2
    have hnil : ∀ (xx : Option Addr) (a c : Nat) (z : Int), (Value.slice xx a c) ≠ .int .i64 z := by intro _ _ _ z hz; cases hz
    refine Agg.tStore 2 h4 rfl rfl rfl rfl rfl (by decide +kernel) rfl rfl (by simp [Value.oneCell']) (fun w30 hb30 hg30 => ?_)
    have hn1' := NB.far hn1 h4 (hnil _ _ _) hg30
    have hn2' := NB.far hn2 h4 (hnil _ _ _) hg30
    have h5' := h5.far' hg30 (by omega)
    have HB2 := HB.out.trans (grown_below hg30 HB.out.size (fun j hj => (by cases hj; omega)))
    refine Agg.tStore 2 h5' rfl rfl rfl rfl rfl (by decide +kernel) rfl rfl (by simp [Value.oneCell']) (fun w31 hb31 hg31 => ?_)
    have hn1'' := NB.far hn1' h5' (hnil _ _ _) hg31
    have hn2'' := NB.far hn2' h5' (hnil _ _ _) hg31
    have hb30' := hb30.far' hg31 (by omega)
    have HB3 := HB2.trans (grown_below hg31 HB2.size (fun j hj => (by cases hj; omega)))
    refine Agg.wpNil ?_
    go_wp2_with fail
    refine bodyPost_ret (results_cc (m := 2) (m2 := 2) rfl hb30' hb31 rfl rfl (by decide +kernel) (by decide +kernel) rfl rfl) rfl ⟨_, _, rfl, ⟨_, by rw [HQ1.out], hn1''⟩, ⟨_, by rw [HQ2.out], hn2''⟩, HB3⟩
  · have HE : Hid ((bif f1 then -(Q : Int) else (Q : Int)) = dq ∧ (R : Int) = dr) := by
      cases f1
      · exact Lib.hid (HD.out.1 (by have := HF1.out; simpa using this))
      · have h0 : R = 0 := by
          apply Classical.byContradiction
          intro h; exact hneg ⟨rfl, by omega⟩
        have := HD.out.2.1 (by have := HF1.out; simpa using this) h0
        exact Lib.hid ⟨this.1, by rw [h0]; exact this.2⟩
    have hgo : f1 = false ∨ (f1 = true ∧ ¬ 0 < ly) := by
      cases f1
      · exact .inl rfl
      · exact .inr ⟨rfl, fun h => hneg ⟨rfl, HR0.out.1 h⟩⟩
    clear hneg HD HF1
    rcases hgo with rfl | ⟨rfl, hly0⟩
    · go_upto_region 4 with (fail)
      clear xH2_0 xH2_1 lH2
      refine Agg.listR 6 (by kernel_rfl) ?_
      simp only [List.take_succ_cons, List.take_zero, List.drop_succ_cons, List.drop_zero]
      refine Agg.chFA fo_Num_0 rfl rfl rfl rfl ?_
      refine Agg.chLoadB H2.out (by decide +kernel) rfl rfl (by rfl) rfl rfl ?_
      refine Agg.chMove rfl rfl rfl rfl ?_
      refine Agg.chCallG Try.func52 rfl (by kernel_rfl) (NumV dq) (NumV.stable _) rfl rfl rfl rfl (fun W hb => by have h := made_any false Q (by have := HQL.out; omega) _ W (SlR.keep HZ.out hb); rw [show (bif false then -(Q : Int) else (Q : Int)) = dq from HE.out.1] at h; exact h) ?_
      refine Agg.chMove rfl rfl rfl rfl ?_
      refine Agg.chCallG Try.func52 rfl (by kernel_rfl) (NumV dr) (NumV.stable _) rfl rfl rfl rfl (fun W hb => by have h := made_any false R (by have := HRL.out; omega) _ W (SlR.keep HY.out hb); rw [show (bif false then -(R : Int) else (R : Int)) = dr from HE.out.2] at h; exact h) ?_
      refine Agg.chEnd ?_
      intro vs w4 hb hf
      simp only [List.reverse, List.reverseAux, Agg.Facts] at hf
      obtain ⟨⟨t1, hv1, hn1⟩, ⟨t2, hv2, hn2⟩, _⟩ := hf
      simp only [List.reverse, List.reverseAux, Agg.fill, List.set_cons_succ, List.set_cons_zero, hv1, hv2]
      clear hv1 hv2
      have h4 := H4.out.keep hb
      have h5 := H5.out.keep hb
      have hsz := HB.out.size
      replace HB := Lib.hid (HB.out.trans (hb.mono hsz))
      clear hb
      obtain ⟨y1, e1, rfl, _, _⟩ := SlR.shape hn1
      obtain ⟨y2, e2, rfl, _, _⟩ := SlR.shape hn2
      obtain ⟨q1, hq1⟩ : ∃ f, decide (dq < 0) = f := ⟨_, rfl⟩
      obtain ⟨q2, hq2⟩ : ∃ f, decide (dr < 0) = f := ⟨_, rfl⟩
      rw [hq1, hq2]
      have HQ1 := Lib.hid hq1
      have HQ2 := Lib.hid hq2
      clear hq1 hq2
      have hnil : ∀ (xx : Option Addr) (a c : Nat) (z : Int), (Value.slice xx a c) ≠ .int .i64 z := by intro _ _ _ z hz; cases hz
      have HN1 := Lib.hid hn1
      have HN2 := Lib.hid hn2
      have H4c := Lib.hid h4
      have H5c := Lib.hid h5
      clear hn1 hn2 h5
      have HNIL := Lib.hid hnil
      clear hnil
      go_wp2_with (first
        | (refine Agg.gStoreB 2 [.bool q1, .slice y1 (digs dq.natAbs).length e1] h4 rfl rfl rfl rfl rfl (by decide +kernel) rfl rfl (by simp [Value.oneCell']) (fun w30 hb30 hg30 => ?_); clear h4; have h5' := H5c.out.far' hg30 (by omega); have H5d := Lib.hid h5')
        | (refine Agg.gStoreB 2 [.bool q2, .slice y2 (digs dr.natAbs).length e2] h5' rfl rfl rfl rfl rfl (by decide +kernel) rfl rfl (by simp [Value.oneCell']) (fun w31 hb31 hg31 => ?_); clear h5'))
      have hn1' := NB.far HN1.out H4c.out (HNIL.out _ _ _) hg30
      have hn2' := NB.far HN2.out H4c.out (HNIL.out _ _ _) hg30
      have HB2 := HB.out.trans (grown_below hg30 HB.out.size (fun j hj => (by cases hj; omega)))
      have hn1'' := NB.far hn1' H5d.out (HNIL.out _ _ _) hg31
      have hn2'' := NB.far hn2' H5d.out (HNIL.out _ _ _) hg31
      have hb30' := hb30.far' hg31 (by omega)
      have HB3 := HB2.trans (grown_below hg31 HB2.size (fun j hj => (by cases hj; omega)))
      refine bodyPost_ret (results_cc (m := 2) (m2 := 2) rfl hb30' hb31 rfl rfl (by decide +kernel) (by decide +kernel) rfl rfl) rfl ⟨_, _, rfl, ⟨_, by rw [HQ1.out], hn1''⟩, ⟨_, by rw [HQ2.out], hn2''⟩, HB3⟩
    · go_upto_region 4 with (fail)
      clear xH2_0 xH2_1 lH2
      clear hly0
      refine Agg.listR 6 (by kernel_rfl) ?_
      simp only [List.take_succ_cons, List.take_zero, List.drop_succ_cons, List.drop_zero]
      refine Agg.chFA fo_Num_0 rfl rfl rfl rfl ?_
      refine Agg.chLoadB H2.out (by decide +kernel) rfl rfl (by rfl) rfl rfl ?_
      refine Agg.chMove rfl rfl rfl rfl ?_
      refine Agg.chCallG Try.func52 rfl (by kernel_rfl) (NumV dq) (NumV.stable _) rfl rfl rfl rfl (fun W hb => by have h := made_any true Q (by have := HQL.out; omega) _ W (SlR.keep HZ.out hb); rw [show (bif true then -(Q : Int) else (Q : Int)) = dq from HE.out.1] at h; exact h) ?_
      refine Agg.chMove rfl rfl rfl rfl ?_
      refine Agg.chCallG Try.func52 rfl (by kernel_rfl) (NumV dr) (NumV.stable _) rfl rfl rfl rfl (fun W hb => by have h := made_any false R (by have := HRL.out; omega) _ W (SlR.keep HY.out hb); rw [show (bif false then -(R : Int) else (R : Int)) = dr from HE.out.2] at h; exact h) ?_
      refine Agg.chEnd ?_
      intro vs w5 hb hf
      simp only [List.reverse, List.reverseAux, Agg.Facts] at hf
      obtain ⟨⟨t1, hv1, hn1⟩, ⟨t2, hv2, hn2⟩, _⟩ := hf
      simp only [List.reverse, List.reverseAux, Agg.fill, List.set_cons_succ, List.set_cons_zero, hv1, hv2]
      clear hv1 hv2
      have h4 := H4.out.keep hb
      have h5 := H5.out.keep hb
      have hsz := HB.out.size
      replace HB := Lib.hid (HB.out.trans (hb.mono hsz))
      clear hb
      obtain ⟨y1, e1, rfl, _, _⟩ := SlR.shape hn1
      obtain ⟨y2, e2, rfl, _, _⟩ := SlR.shape hn2
      obtain ⟨q1, hq1⟩ : ∃ f, decide (dq < 0) = f := ⟨_, rfl⟩
      obtain ⟨q2, hq2⟩ : ∃ f, decide (dr < 0) = f := ⟨_, rfl⟩
      rw [hq1, hq2]
      have HQ1 := Lib.hid hq1
      have HQ2 := Lib.hid hq2
      clear hq1 hq2
      have hnil : ∀ (xx : Option Addr) (a c : Nat) (z : Int), (Value.slice xx a c) ≠ .int .i64 z := by intro _ _ _ z hz; cases hz
      have HN1 := Lib.hid hn1
      have HN2 := Lib.hid hn2
      have H4c := Lib.hid h4
      have H5c := Lib.hid h5
      clear hn1 hn2 h5
      have HNIL := Lib.hid hnil
      clear hnil
      go_wp2_with (first
        | (refine Agg.gStoreB 2 [.bool q1, .slice y1 (digs dq.natAbs).length e1] h4 rfl rfl rfl rfl rfl (by decide +kernel) rfl rfl (by simp [Value.oneCell']) (fun w30 hb30 hg30 => ?_); clear h4; have h5' := H5c.out.far' hg30 (by omega); have H5d := Lib.hid h5')
        | (refine Agg.gStoreB 2 [.bool q2, .slice y2 (digs dr.natAbs).length e2] h5' rfl rfl rfl rfl rfl (by decide +kernel) rfl rfl (by simp [Value.oneCell']) (fun w31 hb31 hg31 => ?_); clear h5'))
      have hn1' := NB.far HN1.out H4c.out (HNIL.out _ _ _) hg30
      have hn2' := NB.far HN2.out H4c.out (HNIL.out _ _ _) hg30
      have HB2 := HB.out.trans (grown_below hg30 HB.out.size (fun j hj => (by cases hj; omega)))
      have hn1'' := NB.far hn1' H5d.out (HNIL.out _ _ _) hg31
      have hn2'' := NB.far hn2' H5d.out (HNIL.out _ _ _) hg31
      have hb30' := hb30.far' hg31 (by omega)
      have HB3 := HB2.trans (grown_below hg31 HB2.size (fun j hj => (by cases hj; omega)))
      refine bodyPost_ret (results_cc (m := 2) (m2 := 2) rfl hb30' hb31 rfl rfl (by decide +kernel) (by decide +kernel) rfl rfl) rfl ⟨_, _, rfl, ⟨_, by rw [HQ1.out], hn1''⟩, ⟨_, by rw [HQ2.out], hn2''⟩, HB3⟩
end Go.Proofs.Ytchpkgneloiidaa
end
section
/-
  THE DOCUMENT's SPANS (layer 4): Of.
-/
namespace Go.Proofs.Ytchpkgneloiidaa
open Go.ChangeShapes Go.WideShapes Go.ChangeAt Go.RowKit Agg Wd

/-- the span between two numbers, if they are numbers of 64 bits -/
def ofR (lo hi : Int) : (Int × Int) × Bool := if (fits64 lo && fits64 hi) = true then ((lo, hi), true) else ((0, 0), false)
end Go.Proofs.Ytchpkgneloiidaa
end
section
/-
  THE DOCUMENT's SPANS (layer 4): Around.
-/
namespace Go.Proofs.Ytchpkgneloiidaa
open Go.ChangeShapes Go.WideShapes Go.ChangeAt Go.RowKit Agg Wd

theorem i64_len {z : Int} (h1 : -9223372036854775808 ≤ z) (h2 : z ≤ 9223372036854775807) : (digs z.natAbs).length ≤ 64 := by
  refine digs_len ?_
  have e : (2 : Nat) ^ 64 = 18446744073709551616 := by decide
  rw [e]; omega
end Go.Proofs.Ytchpkgneloiidaa
end
