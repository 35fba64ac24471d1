/-
  THE DOCUMENT's NUMBERS (layers 1 and 4): a number is the same as itself; a wide number of one word; a span's width.
-/
import Derived.Test.YtcedalenjcbnmaaWdI
import Derived.Test.YtcedalenjcbnmaaWdC
namespace Go.Proofs.Ytcedalenjcbnmaa
open Go.ChangeShapes Go.WideShapes Go.ChangeAt Go.RowKit Agg Wd

theorem fo_fo_Wide_0 : Agg.fieldOff Try.prog 60 0 = some 0 := by kernel_rfl
theorem fo_fo_Wide_1 : Agg.fieldOff Try.prog 60 1 = some 1 := by kernel_rfl
set_option maxHeartbeats 4000000 in
set_option maxRecDepth 100000 in
theorem same_any (a : Int) (ha : (digs a.natAbs).length ≤ 1000) (u v : Value) (w : World) (hu : NumV a u w) (hv : NumV a v w) :
    Calls Try.prog 32 #[u, v] w fun e w' => e = .returned (.bool true) ∧ Below w.heap.size w w' := by
  have HL := Lib.hid (fun u v W (h1 : NumV a u W) (h2 : NumV a v W) => Less_any a a ha ha u v W h1 h2 false (by simp))
  have HU : Hid (NumV a u w) := Lib.hid hu
  have HV : Hid (NumV a v w) := Lib.hid hv
  obtain ⟨s1, rfl, hs1⟩ := hu
  obtain ⟨s2, rfl, hs2⟩ := hv
  obtain ⟨x1, c1, rfl, _, _⟩ := SlR.shape hs1
  obtain ⟨x2, c2, rfl, _, _⟩ := SlR.shape hs2
  clear hs1 hs2 ha
  obtain ⟨f, hf⟩ : ∃ f, decide (a < 0) = f := ⟨_, rfl⟩
  rw [hf] at HU HV ⊢
  obtain ⟨n, hn⟩ : ∃ n, (digs a.natAbs).length = n := ⟨_, rfl⟩
  rw [hn] at HU HV ⊢
  clear hf hn
  have HB := Lib.hid (Below.refl w.heap.size w)
  go_enter Try.func32, Try.ntmps32
  go_upto_region 1 with (fail)
  refine Agg.wp_at fun w1 hw1 => ?_
  have hb : Below w.heap.size w w1 := by rw [hw1.out]; repeat (first | exact Below.refl _ _ | refine Agg.bel_drew ?_ | refine Agg.bel_alloc ?_ _)
  replace HB := Lib.hid (HB.out.trans (hb.mono HB.out.size))
  clear hb
  replace HU : Hid (NumV a (.agg #[.bool f, .slice x1 n c1]) w1) := Lib.hid (NumV.stable _ _ _ _ HU.out HB.out)
  replace HV : Hid (NumV a (.agg #[.bool f, .slice x2 n c2]) w1) := Lib.hid (NumV.stable _ _ _ _ HV.out HB.out)
  have H2 : Hid (Blk w1 w.heap.size 57 [.bool f, .slice x1 n c1]) := by show Blk _ _ _ _; rw [hw1.out]; exact (Blk.new w 57 #[.bool f, .slice x1 n c1]).al _
  have H3 : Hid (Blk w1 (w.heap.size + 1) 57 [.bool f, .slice x2 n c2]) := by show Blk _ _ _ _; rw [hw1.out]; exact Blk.newAt (w.alloc _) 57 #[.bool f, .slice x2 n c2] _ (by simp)
  clear hw1
  refine Agg.listR 11 (by kernel_rfl) ?_
  simp only [List.take_succ_cons, List.take_zero, List.drop_succ_cons, List.drop_zero]
  refine Agg.chRowB 2 H2.out rfl (by decide +kernel) rfl rfl rfl rfl ?_
  refine Agg.chRowB 2 H3.out rfl (by decide +kernel) rfl rfl rfl rfl ?_
  refine Agg.chCall Try.func59 rfl (by kernel_rfl) rfl rfl rfl rfl (fun W hb => HL.out _ _ W (NumV.stable _ _ _ _ HU.out hb) (NumV.stable _ _ _ _ HV.out hb)) ?_
  refine Agg.chNot rfl rfl rfl rfl ?_
  refine Agg.chMove rfl rfl rfl rfl ?_
  refine Agg.chRowB 2 H3.out rfl (by decide +kernel) rfl rfl rfl rfl ?_
  refine Agg.chRowB 2 H2.out rfl (by decide +kernel) rfl rfl rfl rfl ?_
  refine Agg.chCall Try.func59 rfl (by kernel_rfl) rfl rfl rfl rfl (fun W hb => HL.out _ _ W (NumV.stable _ _ _ _ HV.out hb) (NumV.stable _ _ _ _ HU.out hb)) ?_
  refine Agg.chNot rfl rfl rfl rfl ?_
  refine Agg.chPick rfl rfl rfl rfl rfl ?_
  refine Agg.chAssign rfl rfl rfl rfl ?_
  refine Agg.chEnd ?_
  intro vs w2 hb _
  show Exit.then _ _ Exit.normal _ _
  simp only [List.reverse, List.reverseAux, Agg.fill, List.set_cons_succ, List.set_cons_zero]
  replace HB := Lib.hid (HB.out.trans (hb.mono HB.out.size))
  clear hb
  go_wp2_with fail
  go_ret
  exact ⟨rfl, HB.out⟩
set_option maxHeartbeats 4000000 in
set_option maxRecDepth 100000 in
theorem rWidth_any (a b : Int) (ha1 : -9223372036854775808 ≤ a) (ha2 : a ≤ 9223372036854775807) (hb1 : -9223372036854775808 ≤ b) (hb2 : b ≤ 9223372036854775807) (w : World) :
    Calls Try.prog 34 #[.agg #[.int .i64 a, .int .i64 b]] w fun e w' => ∃ r, e = .returned r ∧ NumV (b - a) r w' ∧ Below w.heap.size w w' := by
  have HIA := Lib.hid (fun W => Int_any a ha1 ha2 W)
  have HIB := Lib.hid (fun W => Int_any b hb1 hb2 W)
  have HLA := Lib.hid (i64_len ha1 ha2)
  have HLB := Lib.hid (i64_len hb1 hb2)
  clear ha1 ha2 hb1 hb2
  have HB := Lib.hid (Below.refl w.heap.size w)
  go_enter Try.func34, Try.ntmps34
  go_upto_region 1 with (fail)
  refine Agg.wp_at fun w1 hw1 => ?_
  have hb : Below w.heap.size w w1 := by rw [hw1.out]; repeat (first | exact Below.refl _ _ | refine Agg.bel_drew ?_ | refine Agg.bel_alloc ?_ _)
  replace HB := Lib.hid (HB.out.trans (hb.mono HB.out.size))
  clear hb
  have H1 : Hid (Blk w1 w.heap.size 31 [.int .i64 a, .int .i64 b]) := by show Blk _ _ _ _; rw [hw1.out]; exact (Blk.new w 31 #[.int .i64 a, .int .i64 b]).al _
  have H2 : Hid (Blk w1 (w.heap.size + 1) 57 [.bool false, .slice none 0 0]) := by show Blk _ _ _ _; rw [hw1.out]; exact Blk.newAt (w.alloc _) 57 #[.bool false, .slice none 0 0] _ (by simp)
  clear hw1
  refine Agg.chainR 7 (by kernel_rfl) (by kernel_rfl) ?_
  simp only [List.take_succ_cons, List.take_zero, List.drop_succ_cons, List.drop_zero]
  refine Agg.chFA (by first | exact fo_Num_1 | exact fo_Wide_1 | exact fo_Span_1 | exact fo_fo_Wide_1) rfl rfl rfl rfl ?_
  refine Agg.chLoadB H1.out (by decide +kernel) rfl rfl (by rfl) rfl rfl ?_
  refine Agg.chCallG Try.func53 rfl (by kernel_rfl) (NumV b) (NumV.stable _) rfl rfl rfl rfl (fun W hb => HIB.out W) ?_
  refine Agg.chFA (by first | exact fo_Num_0 | exact fo_Wide_0 | exact fo_Span_0 | exact fo_fo_Wide_0) rfl rfl rfl rfl ?_
  refine Agg.chLoadB H1.out (by decide +kernel) rfl rfl (by rfl) rfl rfl ?_
  refine Agg.chCallG Try.func53 rfl (by kernel_rfl) (NumV a) (NumV.stable _) rfl rfl rfl rfl (fun W hb => HIA.out W) ?_
  refine Agg.chCall_oo Try.func55 rfl (by kernel_rfl) (.op (NumV (b - a))) (NumV.stable _) 2 5 rfl rfl rfl rfl rfl rfl rfl rfl rfl (fun u u2 W hb hg hg2 => Sub_any b a (by have := HLB.out; omega) (by have := HLA.out; omega) u u2 W hg hg2) ?_
  refine Agg.chEnd ?_
  intro vs w2 hb hf
  simp only [List.reverse, List.reverseAux, Agg.Facts] at hf
  obtain ⟨_, _, ⟨sl, hv, hnb⟩, _⟩ := hf
  simp only [List.reverse, List.reverseAux, Agg.fill, List.set_cons_succ, List.set_cons_zero, hv]
  clear hv
  have hsz := HB.out.size
  have h2 := H2.out.keep hb
  replace HB := Lib.hid (HB.out.trans (hb.mono hsz))
  clear hb
  obtain ⟨bl, hbl⟩ : ∃ bl, decide (b - a < 0) = bl := ⟨_, rfl⟩
  rw [hbl]
  have HBL := Lib.hid hbl
  clear hbl
  obtain ⟨xl, cl, rfl, _, _⟩ := SlR.shape hnb
  refine Agg.tStore 2 h2 rfl rfl rfl rfl rfl (by decide +kernel) rfl rfl (by simp [Value.oneCell']) (fun w30 hb30 hg30 => ?_)
  refine Agg.wpNil ?_
  have hnf := NB.far hnb h2 (by intro q hq; cases hq) hg30
  have hsz2 := HB.out.size
  go_wp2_with fail
  refine bodyPost_ret (results_row1 (m := 2) rfl hb30 rfl (by decide +kernel) rfl) rfl ⟨_, rfl, ⟨_, by rw [HBL.out], hnf⟩, ?_⟩
  exact HB.out.trans (grown_below hg30 hsz2 (fun j hj => (by cases hj; omega)))
set_option maxHeartbeats 4000000 in
set_option maxRecDepth 100000 in
theorem low_any (n : Nat) (hn : n < 18446744073709551616) (w : World) :
    Calls Try.prog 33 #[.agg #[.int .i64 0, .int .u64 (n : Int)]] w fun e w' => ∃ r, e = .returned r ∧ NumV (n : Int) r w' ∧ Below w.heap.size w w' := by
  have HNL : Hid ((digs n).length ≤ 64) := Lib.hid (digs_len (by have e : (2 : Nat) ^ 64 = 18446744073709551616 := by decide
                                                                 omega))
  have HN := Lib.hid hn
  clear hn
  have HB := Lib.hid (Below.refl w.heap.size w)
  go_enter Try.func33, Try.ntmps33
  go_upto_region 1 with (fail)
  refine Agg.wp_at fun w1 hw1 => ?_
  have hb : Below w.heap.size w w1 := by rw [hw1.out]; repeat (first | exact Below.refl _ _ | refine Agg.bel_drew ?_ | refine Agg.bel_alloc ?_ _)
  replace HB := Lib.hid (HB.out.trans (hb.mono HB.out.size))
  clear hb
  have H1 : Hid (Blk w1 w.heap.size 60 [.int .i64 0, .int .u64 (n : Int)]) := by show Blk _ _ _ _; rw [hw1.out]; exact (Blk.new w 60 #[.int .i64 0, .int .u64 (n : Int)]).al _
  have H2 : Hid (Blk w1 (w.heap.size + 1) 57 [.bool false, .slice none 0 0]) := by show Blk _ _ _ _; rw [hw1.out]; exact Blk.newAt (w.alloc _) 57 #[.bool false, .slice none 0 0] _ (by simp)
  clear hw1
  refine Agg.chainR 10 (by kernel_rfl) (by kernel_rfl) ?_
  simp only [List.take_succ_cons, List.take_zero, List.drop_succ_cons, List.drop_zero]
  refine Agg.chFA (by first | exact fo_Num_0 | exact fo_Wide_0 | exact fo_Span_0 | exact fo_fo_Wide_0) rfl rfl rfl rfl ?_
  refine Agg.chLoadB H1.out (by decide +kernel) rfl rfl (by rfl) rfl rfl ?_
  refine Agg.chInt _ rfl (by kernel_rfl) Try.underlying28 rfl rfl rfl rfl ?_
  refine Agg.chCallG Try.func62 rfl (by kernel_rfl) (fun v w => NB w v 0) (NB.stable _) rfl rfl rfl rfl (fun W hb => size_any 0 (by decide) W) ?_
  refine Agg.chCallG Try.func63 rfl (by kernel_rfl) (fun v w => NB w v (2 ^ 64)) (NB.stable _) rfl rfl rfl rfl (fun W hb => power_any 64 (by decide) W) ?_
  refine Agg.chCall_oo Try.func61 rfl (by kernel_rfl) (.op (fun v w => NB w v (0 * 2 ^ 64))) (NB.stable _) 3 4 rfl rfl rfl rfl rfl rfl rfl rfl rfl (fun u u2 W hb hg hg2 => wtimes_any 0 (2 ^ 64) (by rw [digs_zero]; decide) (Nat.le_trans (digs_len (k := 65) (by decide)) (by decide)) (by rw [Nat.zero_mul, digs_zero]; decide) u u2 W hg hg2) ?_
  refine Agg.chFA (by first | exact fo_Num_1 | exact fo_Wide_1 | exact fo_Span_1 | exact fo_fo_Wide_1) rfl rfl rfl rfl ?_
  refine Agg.chLoadB H1.out (by decide +kernel) rfl rfl (by rfl) rfl rfl ?_
  refine Agg.chCallG Try.func62 rfl (by kernel_rfl) (fun v w => NB w v n) (NB.stable _) rfl rfl rfl rfl (fun W hb => size_any n HN.out W) ?_
  refine Agg.chCall_oo Try.func60 rfl (by kernel_rfl) (.op (fun v w => NB w v (0 * 2 ^ 64 + n))) (NB.stable _) 5 8 rfl rfl rfl rfl rfl rfl rfl rfl rfl (fun u u2 W hb hg hg2 => plus_any (0 * 2 ^ 64) n (by rw [Nat.zero_mul, digs_zero]; decide) (by have := HNL.out; omega) u u2 W hg hg2) ?_
  refine Agg.chEnd ?_
  intro vs w2 hb hf
  simp only [List.reverse, List.reverseAux, Agg.Facts] at hf
  obtain ⟨_, _, _, _, hnb, _⟩ := hf
  simp only [List.reverse, List.reverseAux, Agg.fill, List.set_cons_succ, List.set_cons_zero]
  rw [show 0 * 2 ^ 64 + n = n by omega] at hnb
  obtain ⟨xq, cq, hxq, _, _⟩ := SlR.shape hnb
  have hsz := HB.out.size
  have h2 := H2.out.keep hb
  have h1 := H1.out.keep hb
  replace HB := Lib.hid (HB.out.trans (hb.mono hsz))
  clear hb
  refine Agg.tAssign rfl rfl rfl ?_
  simp only [Agg.ev, List.getD_cons_zero, List.getD_cons_succ, List.set_cons_succ, List.set_cons_zero]
  refine Agg.wpNil ?_
  rw [hxq] at hnb ⊢
  have HQ : Hid (NB w2 (.slice xq (digs n).length cq) n) := Lib.hid hnb
  clear hnb hxq
  replace H1 := Lib.hid h1
  replace H2 := Lib.hid h2
  clear h1 h2 hsz
  have xH1_0 := H1.out.cell 0
  have xH1_1 := H1.out.cell 1
  have lH1 := H1.out.lt
  simp only [List.getElem?_cons_zero, List.getElem?_cons_succ] at xH1_0 xH1_1
  go_wp2_with fail
  clear xH1_0 xH1_1 lH1
  clear H1
  refine (made_any false n (by have := HNL.out; omega) _ w2 HQ.out).mono ?_
  rintro e w3 ⟨r, rfl, hr, hb⟩
  replace HB := Lib.hid (HB.out.trans (hb.mono HB.out.size))
  replace H2 := Lib.hid (H2.out.keep hb)
  replace HQ := Lib.hid (HQ.out.keep hb)
  clear hb
  obtain ⟨sl, rfl, hnb⟩ := hr
  rw [show (bif false then -(n : Int) else (n : Int)).natAbs = n from Int.natAbs_natCast n] at hnb
  rw [show decide ((bif false then -(n : Int) else (n : Int)) < 0) = false by simp]
  obtain ⟨xl, cl, rfl, _, _⟩ := SlR.shape hnb
  have HNB := Lib.hid hnb
  have h2 := H2.out
  have hsz := HB.out.size
  clear hnb
  go_wp2_with (refine Agg.gStoreB 2 [.bool false, .slice xl (digs n).length cl] h2 rfl rfl rfl rfl rfl (by decide +kernel) rfl rfl (by simp [Value.oneCell']) (fun w30 hb30 hg30 => ?_))
  have hnf := NB.far HNB.out h2 (by intro q hq; cases hq) hg30
  refine bodyPost_ret (results_row1 (m := 2) rfl hb30 rfl (by decide +kernel) rfl) rfl ⟨_, rfl, ⟨.slice xl (digs n).length cl, by simp, by rw [Int.natAbs_natCast]; exact hnf⟩, ?_⟩
  exact HB.out.trans (grown_below hg30 hsz (fun j hj => (by cases hj; omega)))
end Go.Proofs.Ytcedalenjcbnmaa
