/-
  FILES: Put, the function.
-/
import Derived.Test.YtgfmpkcgkjpgnaaFiI
import Derived.Test.YtgfmpkcgkjpgnaaFiE
import Derived.Test.YtgfmpkcgkjpgnaaFi8
section
namespace Go.Proofs.Ytgfmpkcgkjpgnaa
open Go.ChangeShapes Go.WideShapes Go.ChangeAt Go.RowKit Agg Pg Dv Fi
attribute [local go_sem] Oper.semAt_some

set_option maxHeartbeats 4000000 in
set_option maxRecDepth 100000 in
theorem fPut_any (d : Dev) (A : List Int) (kind : Int) (n : Nat) (B : List UInt8) (dv av bv : Value) (w : World) (hd : DGood d) (hc : d.cache.length ≤ 10000) (hD : DevR w dv d) (hA : Ints w av A) (hB : Bytes w bv B) (hal : A.length ≤ 1000) (hbn : B.length ≤ 1000000) (hn : n < 18446744073709551616) :
    Calls Try.prog 22 #[dv, av, .int .i64 kind, .int .u64 (n : Int), bv] w fun e w' => ∃ v, e = .returned (.tuple #[v, .int .i64 (fPut d A kind n B).1]) ∧ DevR w' v (fPut d A kind n B).2 ∧ Below w.heap.size w w' := by
  obtain ⟨ax, ac, rfl, _, _⟩ := SlR.shape hA
  obtain ⟨bx, cap, rfl, _, _⟩ := SlR.shape hB
  obtain ⟨px, cx, pc, cc, rfl, hk2, hk3⟩ := hD
  have HD : Hid (DevR w (.agg #[.slice px d.pages.length pc, .slice cx d.cache.length cc, .int .i64 d.fuse, .bool d.off]) d) := Lib.hid ⟨px, cx, pc, cc, rfl, hk2, hk3⟩
  have HD0 := Lib.hid HD.out
  have HA0 := Lib.hid hA
  have HB0 := Lib.hid hB
  have HDG := Lib.hid hd
  rw [fPut_ask]
  have HOK := Lib.hid (putR_good hd A kind n B hal).ok
  obtain ⟨r, hr⟩ : ∃ r, askP d (mayB A kind B.length d.pages.length) (putR d A kind n B) = r := ⟨_, rfl⟩
  rw [hr]
  have HR := Lib.hid hr
  have HRK : Hid (DOk r.2) := by
    refine Lib.hid ?_
    rw [← hr, askP]
    split
    · exact dev0_ok
    · split
      · exact dev0_ok
      · split
        · exact dev0_ok
        · exact HOK.out
  obtain ⟨g, hg⟩ : ∃ g, (if r.1 = 10 ∧ d.off = true then goesP d (flushP d) else r) = g := ⟨_, rfl⟩
  rw [hg]
  have HG := Lib.hid hg
  clear hg hr hd hA hB hk2 hk3
  have HB := Lib.hid (Below.refl w.heap.size w)
  go_enter Try.func22, Try.ntmps22
  go_upto_region 1 with (fail)
  refine Agg.wp_at fun w1 hw1 => ?_
  have hb : Below w.heap.size w w1 := by rw [hw1.out]; repeat (first | exact Below.refl _ _ | refine Agg.bel_drew ?_ | refine Agg.bel_alloc ?_ _)
  replace HB := Lib.hid (HB.out.trans (hb.mono HB.out.size))
  replace HD := Lib.hid (HD.out.keep hb)
  clear hb
  have H1 : Hid (Blk w1 w.heap.size 46 [.slice px d.pages.length pc, .slice cx d.cache.length cc, .int .i64 d.fuse, .bool d.off]) := by show Blk _ _ _ _; rw [hw1.out]; exact ((((Blk.new w 46 #[.slice px d.pages.length pc, .slice cx d.cache.length cc, .int .i64 d.fuse, .bool d.off]).al _).al _).al _).al _
  have H2 : Hid (Blk w1 (w.heap.size + 1) 22 [.slice ax A.length ac]) := by show Blk _ _ _ _; rw [hw1.out]; exact (((Blk.newAt (w.alloc _) 22 #[.slice ax A.length ac] _ (by simp)).al _).al _).al _
  have H3 : Hid (Blk w1 (w.heap.size + 1 + 1) 42 [.int .u64 (n : Int)]) := by show Blk _ _ _ _; rw [hw1.out]; exact ((Blk.newAt ((w.alloc _).alloc _) 42 #[.int .u64 (n : Int)] _ (by simp)).al _).al _
  have H4 : Hid (Blk w1 (w.heap.size + 1 + 1 + 1) 39 [.slice bx B.length cap]) := by show Blk _ _ _ _; rw [hw1.out]; exact (Blk.newAt (((w.alloc _).alloc _).alloc _) 39 #[.slice bx B.length cap] _ (by simp)).al _
  have H5 : Hid (Blk w1 (w.heap.size + 1 + 1 + 1 + 1) 46 [.slice none 0 0, .slice none 0 0, .int .i64 0, .bool false]) := by show Blk _ _ _ _; rw [hw1.out]; exact Blk.newAt ((((w.alloc _).alloc _).alloc _).alloc _) 46 #[.slice none 0 0, .slice none 0 0, .int .i64 0, .bool false] _ (by simp)
  clear hw1
  have l5 := H5.out.lt
  have xH2_0 := H2.out.cell 0
  have lH2 := H2.out.lt
  simp only [List.getElem?_cons_zero] at xH2_0
  have h1 := H1.out
  go_upto_region 2 with (first
    | (refine Agg.gLoadB 4 h1 rfl rfl rfl rfl (by decide +kernel) ?_; simp only [Act.put, List.setIfInBounds_toArray, List.set_cons_succ, List.set_cons_zero]))
  clear xH2_0 lH2
  clear h1
  obtain ⟨kl, hkl⟩ : ∃ k, w1.heap.size = k := ⟨_, rfl⟩
  rw [hkl] at l5 ⊢
  have hkls := hkl
  refine Agg.wp_at fun w2 hw2 => ?_
  have hb : Below w1.heap.size w1 w2 := by rw [hw2.out]; repeat (first | exact Below.refl _ _ | refine Agg.bel_drew ?_ | refine Agg.bel_alloc ?_ _)
  replace HB := Lib.hid (HB.out.trans (hb.mono HB.out.size))
  replace HD := Lib.hid (HD.out.keep hb)
  replace H1 := Lib.hid (H1.out.keep hb)
  replace H2 := Lib.hid (H2.out.keep hb)
  replace H3 := Lib.hid (H3.out.keep hb)
  replace H4 := Lib.hid (H4.out.keep hb)
  replace H5 := Lib.hid (H5.out.keep hb)
  clear hb
  have HL : Hid (LaidR w2 kl d ax A.length ac kind) := by
    refine Lib.hid ?_
    obtain ⟨x, y, c1, c2, he, hp, hv⟩ := HD.out
    simp only [Value.agg.injEq, Array.mk.injEq, List.cons.injEq, Value.slice.injEq, true_and, and_true] at he
    obtain ⟨⟨rfl, rfl⟩, rfl, rfl⟩ := he
    refine ⟨px, cx, pc, cc, ?_, hp, hv⟩
    show Blk _ _ _ _
    rw [hw2.out, ← hkls]
    exact (Blk.new w1 92 (LaidV px cx ax d.pages.length pc d.cache.length cc A.length ac d.fuse d.off kind).toArray).al _
  have H6 : Hid (Blk w2 (kl + 1) 90 [.pointer (some ⟨kl, 0, none⟩)]) := by show Blk _ _ _ _; rw [hw2.out]; exact Blk.newAt (w1.alloc _) 90 #[.pointer (some ⟨kl, 0, none⟩)] _ (by rw [← hkls]; simp)
  clear hw2
  have l6 := H6.out.lt
  have xH6_0 := H6.out.cell 0
  have lH6 := H6.out.lt
  simp only [List.getElem?_cons_zero] at xH6_0
  obtain ⟨kf, hkf⟩ : ∃ k, w2.heap.size = k := ⟨_, rfl⟩
  rw [hkf] at l6
  have hfn := Blk.newAt w2 93 #[Value.nilFunc] _ hkf.symm
  go_upto_region 3 with (first
    | (refine Agg.gStoreCell 0 (.func (.func 44) #[.pointer (some ⟨kl, 0, none⟩)] #[]) hfn rfl rfl rfl rfl rfl (by kernel_rfl) rfl (by simp) rfl (fun w3 hb3 hg3 => ?_)))
  clear xH6_0 lH6
  clear hfn
  simp only [spliced, List.take_zero, List.drop_succ_cons, List.nil_append, List.drop_nil, List.append_nil, List.length_cons, List.length_nil] at hb3
  have hbE : Below w2.heap.size w2 w3 := ((Below.refl _ _).alloc (Nat.le_refl _) _).trans (grown_below hg3 (by simp) (fun j hj => by cases hj; omega))
  have H7 := Lib.hid hb3
  replace HL : Hid (LaidR w3 kl d ax A.length ac kind) := Lib.hid (by obtain ⟨x, y, c1, c2, h1, h2, h3⟩ := HL.out; exact ⟨x, y, c1, c2, h1.keep hbE, SlR.keep h2 hbE, SlR.keep h3 hbE⟩)
  clear hb3 hg3 hkf
  have hb := hbE
  replace HB := Lib.hid (HB.out.trans (hb.mono HB.out.size))
  replace HD := Lib.hid (HD.out.keep hb)
  replace H1 := Lib.hid (H1.out.keep hb)
  replace H2 := Lib.hid (H2.out.keep hb)
  replace H3 := Lib.hid (H3.out.keep hb)
  replace H4 := Lib.hid (H4.out.keep hb)
  replace H5 := Lib.hid (H5.out.keep hb)
  replace H6 := Lib.hid (H6.out.keep hb)
  clear hb
  have xH6_0 := H6.out.cell 0
  have lH6 := H6.out.lt
  simp only [List.getElem?_cons_zero] at xH6_0
  have xH4_0 := H4.out.cell 0
  have lH4 := H4.out.lt
  simp only [List.getElem?_cons_zero] at xH4_0
  go_wp2_with fail
  clear xH6_0 lH6 xH4_0 lH4
  have hkw : kl < w3.heap.size := by obtain ⟨_, _, _, _, h, _⟩ := HL.out; exact h.lt
  have hwk : w.heap.size ≤ kl := by omega
  refine (askedD_any d A kind B.length 46 _ (Agg.enters Try.func46 (by kernel_rfl) rfl) (putR d A kind n B) ax ac kl w3 HDG.out HL.out (SlR.keep HA0.out HB.out) (by omega) (by omega) HOK.out (fun _ _ hm W hb => fputC_any d A B kind n ax bx ac cap _ _ _ _ _ kl w W HDG.out hc (H3.out.keep hb) (H2.out.keep hb) (H7.out.keep hb) (H4.out.keep hb) (H6.out.keep hb) (by obtain ⟨x, y, c1, c2, h1, h2, h3⟩ := HL.out; exact ⟨x, y, c1, c2, h1.keep hb, SlR.keep h2 hb, SlR.keep h3 hb⟩) HA0.out HB0.out (HB.out.trans (hb.mono HB.out.size)) hwk (by omega) hal hbn hn hm)).mono ?_
  rw [HR.out]
  rintro e w9 ⟨v, rfl, hdv, hgr⟩
  have h1 := H1.out.far' hgr (by omega)
  have h5 := H5.out.far' hgr (by omega)
  have hb9 : Below w.heap.size w w9 := HB.out.trans (grown_below hgr HB.out.size (fun j e => by cases e; exact hwk))
  obtain ⟨px9, pc9, cx9, cc9, rfl⟩ := hdv.shape
  go_upto_region 4 with (fail)
  have HB := Lib.hid hb9
  have H1 := Lib.hid h1
  have H5 := Lib.hid h5
  have HDV := Lib.hid hdv
  replace HD := Lib.hid (DevR.keep HD0.out hb9)
  clear h1 h5 hdv hgr hb9 HL H2 H3 H4 H6 H7 hwk hkw l6
  have hs9 := HB.out.size
  have h1w := H1.out.lt
  have h5w := H5.out.lt
  refine Agg.wp_at fun w41 hw41 => ?_
  have hb : Below w9.heap.size w9 w41 := by rw [hw41.out]; repeat (first | exact Below.refl _ _ | refine Agg.bel_drew ?_ | refine Agg.bel_alloc ?_ _)
  replace HB := Lib.hid (HB.out.trans (hb.mono HB.out.size))
  replace H1 := Lib.hid (H1.out.keep hb)
  replace H5 := Lib.hid (H5.out.keep hb)
  replace HD := Lib.hid (HD.out.keep hb)
  replace HDV := Lib.hid (HDV.out.keep hb)
  clear hb
  have H8 : Hid (Blk w41 w9.heap.size 46 [.slice px9 r.2.pages.length pc9, .slice cx9 r.2.cache.length cc9, .int .i64 r.2.fuse, .bool r.2.off]) := by show Blk _ _ _ _; rw [hw41.out]; exact Blk.new w9 46 #[.slice px9 r.2.pages.length pc9, .slice cx9 r.2.cache.length cc9, .int .i64 r.2.fuse, .bool r.2.off]
  clear hw41
  obtain ⟨of, hof⟩ : ∃ b, d.off = b := ⟨_, rfl⟩
  have x3 := H1.out.cell 3
  simp only [List.getElem?_cons_zero, List.getElem?_cons_succ] at x3
  have hg := HG.out
  rw [hof] at x3 hg
  have HOF := Lib.hid hof
  clear hof
  have h8 := H8.out
  have h5 := H5.out
  by_cases hz : r.1 = 10
  · have hzb : (r.1 == 10) = true := by simp [hz]
    cases of
    · rw [if_neg (by simp)] at hg
      subst hg
      clear hz
      go_wp2_with (first
        | (refine Agg.gLoadB 4 h8 rfl rfl rfl rfl (by decide +kernel) ?_; simp only [Act.put, List.setIfInBounds_toArray, List.set_cons_succ, List.set_cons_zero])
        | (refine Agg.gStoreB 4 [.slice px9 r.2.pages.length pc9, .slice cx9 r.2.cache.length cc9, .int .i64 r.2.fuse, .bool r.2.off] h5 rfl rfl rfl rfl rfl (by decide +kernel) rfl rfl (by simp [Value.oneCell']) (fun w14 hb14 hg14 => ?_)))
      refine bodyPost_ret (results_row2 (m := 4) rfl hb14 rfl (by decide +kernel) rfl) rfl ⟨_, rfl, HDV.out.far HRK.out h5 hg14, ?_⟩
      exact HB.out.trans (grown_below hg14 HB.out.size (fun j hj => by cases hj; omega))
    · rw [if_pos ⟨hz, rfl⟩] at hg
      clear hz
      have h1 := H1.out
      go_wp2_with (refine Agg.gLoadB 4 h1 rfl rfl rfl rfl (by decide +kernel) ?_; simp only [Act.put, List.setIfInBounds_toArray, List.set_cons_succ, List.set_cons_zero])
      clear x3 h8 h5 h1
      refine (flush_R HDG.out (by omega) HD.out).mono ?_
      rw [hg]
      rintro e w60 ⟨v, rfl, hdo, hb⟩
      obtain ⟨p, c, rfl, hpo, hco⟩ := hdo
      obtain ⟨px8, pc8, rfl, _, _⟩ := (ownSl hpo).shape
      obtain ⟨cx8, cc8, rfl, _, _⟩ := (ownSl hco).shape
      have h5 := H5.out.keep hb
      have hs60 : w.heap.size + 1 + 1 + 1 + 1 < w41.heap.size := H5.out.lt
      go_wp2_with (refine Agg.gStoreB 4 [.slice px8 g.2.pages.length pc8, .slice cx8 g.2.cache.length cc8, .int .i64 g.2.fuse, .bool g.2.off] h5 rfl rfl rfl rfl rfl (by decide +kernel) rfl rfl (by simp [Value.oneCell']) (fun w14 hb14 hg14 => ?_))
      refine bodyPost_ret (results_row2 (m := 4) rfl hb14 rfl (by decide +kernel) rfl) rfl ⟨_, rfl, ⟨_, _, _, _, rfl, ownSl (hpo.kept hg14 (own_off hpo hs60)), ownSl (hco.kept hg14 (own_off hco hs60))⟩, ?_⟩
      have hb60 := HB.out.trans (hb.mono HB.out.size)
      exact hb60.trans (grown_below hg14 hb60.size (fun j hj => by cases hj; omega))
  · have hzb : (r.1 == 10) = false := by simp [hz]
    rw [if_neg (fun h => hz h.1)] at hg
    subst hg
    clear hz
    go_wp2_with (first
      | (refine Agg.gLoadB 4 h8 rfl rfl rfl rfl (by decide +kernel) ?_; simp only [Act.put, List.setIfInBounds_toArray, List.set_cons_succ, List.set_cons_zero])
      | (refine Agg.gStoreB 4 [.slice px9 r.2.pages.length pc9, .slice cx9 r.2.cache.length cc9, .int .i64 r.2.fuse, .bool r.2.off] h5 rfl rfl rfl rfl rfl (by decide +kernel) rfl rfl (by simp [Value.oneCell']) (fun w14 hb14 hg14 => ?_)))
    refine bodyPost_ret (results_row2 (m := 4) rfl hb14 rfl (by decide +kernel) rfl) rfl ⟨_, rfl, HDV.out.far HRK.out h5 hg14, ?_⟩
    exact HB.out.trans (grown_below hg14 HB.out.size (fun j hj => by cases hj; omega))
end Go.Proofs.Ytgfmpkcgkjpgnaa
end
section
/-
  FILES: what Put and Get come to on a device with its power, in plain Lean.
-/
namespace Go.Proofs.Ytgfmpkcgkjpgnaa
open Go.ChangeShapes Go.WideShapes Go.ChangeAt Go.RowKit Agg Pg Dv Fi

theorem pow_new {n : Nat} (h1 : 24 ≤ n) (h2 : n ≤ 256) : PowD (newD n) := ⟨right_of (by simpa [newD] using h1) (by simpa [newD] using h2) (by simp [newD]) (by simp [newD]) (by simp [newD]) (by simp [newD]), rfl, rfl⟩
theorem may_there {A : List Int} {kind bytes : Int} {np : Nat} (h : mayB A kind bytes np = true) : ∀ a ∈ A, thereB np a = true := fun a ha => by
  obtain ⟨_, _, _, h4⟩ := mayB_facts h
  have := (okA_all np A [] h4).1 a ha
  simp only [thereB, Bool.and_eq_true, decide_eq_true_eq]; omega
theorem may_nodup {A : List Int} {kind bytes : Int} {np : Nat} (h : mayB A kind bytes np = true) : A.Nodup := (okA_all np A [] (mayB_facts h).2.2.2).2
theorem fPut_pow {d : Dev} (h : PowD d) {A : List Int} {kind : Int} {n : Nat} {B : List UInt8} (hm : mayB A kind B.length d.pages.length = true) (hn1 : 1 ≤ n) (hn2 : n + A.length ≤ 4611686018427387905) : fPut d A kind n B = (0, addD d (blksF kind n B 0 A)) ∧ PowD (addD d (blksF kind n B 0 A)) := by
  have ha : 1 ≤ A.length := by
    obtain ⟨h1, h2, _, _⟩ := mayB_facts hm
    unfold needN at h2; split at h2 <;> omega
  obtain ⟨p1, p2⟩ := puts_pow h (l := blksF kind n B 0 A) (fun x hx => may_there hm _ (blksF_key hx))
  refine ⟨?_, p2⟩
  unfold fPut
  rw [if_neg (by rw [h.1]; decide), if_neg (by rw [h.2.1]; decide), if_neg (by rw [hm]; decide), if_neg (fun h => h ⟨hn1, by omega⟩), if_neg (by omega), p1]
theorem fPut_no {d : Dev} (h : PowD d) {A : List Int} {kind : Int} {n : Nat} {B : List UInt8} (hm : mayB A kind B.length d.pages.length = false) : fPut d A kind n B = (2, dev0) := by
  unfold fPut
  rw [if_neg (by rw [h.1]; decide), if_neg (by rw [h.2.1]; decide), if_pos hm]
theorem fGet_no {d : Dev} (h : PowD d) {A : List Int} {kind bytes : Int} (hm : mayB A kind bytes d.pages.length = false) : fGet d A kind bytes = ([], 2) := by
  unfold fGet
  rw [if_neg (by rw [h.1]; decide), if_neg (by rw [h.2.1]; decide), if_pos hm]
theorem fGet_pow {d : Dev} (h : PowD d) {A : List Int} {kind bytes : Int} (hm : mayB A kind bytes d.pages.length = true) : fGet d A kind bytes = getsP d kind bytes 0 0 [] A := by
  unfold fGet
  rw [if_neg (by rw [h.1]; decide), if_neg (by rw [h.2.1]; decide), if_neg (by rw [hm]; decide)]
theorem add_read {d : Dev} (h : PowD d) {A : List Int} {kind : Int} {n : Nat} {B : List UInt8} (hp : PowD (addD d (blksF kind n B 0 A))) (hm : mayB A kind B.length d.pages.length = true) (i : Nat) (hi : i < A.length) : readP (addD d (blksF kind n B 0 A)) A[i] = (0, layB kind (partB B i) (n + i)) := by
  rw [read_pow hp.1 hp.2.1 (may_there hm _ (List.getElem_mem hi))]
  show (0, saysP d.pages (d.cache ++ blksF kind n B 0 A) A[i]) = _
  rw [says_blk kind n B (may_nodup hm) i hi]
/-- what is put is got -/
theorem put_get {d : Dev} (h : PowD d) {A : List Int} {kind : Int} {n : Nat} {B : List UInt8} (hm : mayB A kind B.length d.pages.length = true) (hn1 : 1 ≤ n) (hn2 : n + A.length ≤ 4611686018427387905) : fGet (addD d (blksF kind n B 0 A)) A kind B.length = (B, 0) := by
  obtain ⟨_, hp⟩ := fPut_pow h hm hn1 hn2
  obtain ⟨_, h2, h3, _⟩ := mayB_facts hm
  rw [fGet_pow hp hm]
  exact gets_all h3 hn1 hn2 h2 (fun i hi => add_read h hp hm i hi)
/-- the file of wakes -/
def wkB : List UInt8 := List.replicate 129 0 ++ [7]
theorem wkB_len : wkB.length = 130 := by simp [wkB]
def wkD : Dev := addD (newD 24) (blksF 3 5 wkB 0 [19, 21])
theorem wk_may : mayB [19, 21] 3 wkB.length (newD 24).pages.length = true := by
  rw [wkB_len, show (newD 24).pages.length = 24 by simp [newD]]; decide
theorem wk_put : fPut (newD 24) [19, 21] 3 5 wkB = (0, wkD) := (fPut_pow (pow_new (by decide) (by decide)) wk_may (by decide) (by decide)).1
theorem wk_pow : PowD wkD := (fPut_pow (pow_new (by decide) (by decide)) wk_may (by decide) (by decide) (n := 5)).2
theorem wk_get : fGet wkD [19, 21] 3 130 = (wkB, 0) := by
  have h := put_get (pow_new (by decide) (by decide)) wk_may (by decide) (by decide) (n := 5)
  rw [wkB_len] at h; exact h
theorem wk_none : fGet wkD [19, 21] 3 131 = ([], 300) := by
  have hp := wk_pow
  have hm : mayB [19, 21] 3 131 wkD.pages.length = true := by
    rw [show wkD.pages.length = 24 by simp [wkD, addD, newD]]; decide
  have h0 := add_read (pow_new (by decide) (by decide)) wk_pow wk_may 0 (by decide) (n := 5)
  have h1 := add_read (pow_new (by decide) (by decide)) wk_pow wk_may 1 (by decide) (n := 5)
  simp only [List.getElem_cons_zero, List.getElem_cons_succ] at h0 h1
  rw [fGet_pow hp hm]
  have r0 := read_lay 3 (partB wkB 0) 5 ⟨by decide, by decide, partB_len _ _⟩ ⟨by decide, by decide⟩
  have r1 := read_lay 3 (partB wkB 1) 6 ⟨by decide, by decide, partB_len _ _⟩ ⟨by decide, by decide⟩
  have l0 : (partB wkB 0).length = 120 := by simp [partB, wkB_len]
  have l1 : (partB wkB 1).length = 10 := by simp [partB, wkB_len]
  have e0 : readP wkD 19 = (0, layB 3 (partB wkB 0) 5) := h0
  have e1 : readP wkD 21 = (0, layB 3 (partB wkB 1) 6) := h1
  rw [gets_eq (by rw [e0]) 5 (by rw [e0]; simp only [r0]; rfl), e0]
  simp only [r0]
  rw [if_pos ⟨trivial, trivial, trivial, by rw [l0]; decide⟩, gets_eq (by rw [e1]) 5 rfl, e1]
  simp only [r1]
  rw [if_neg (fun h => by
    have := h.2.2.2
    rw [l1, List.nil_append, l0] at this
    exact absurd this (by decide))]
theorem wk_take : takeL [18, 20, 23] 24 2 = ([19, 21], 0) := by decide
theorem wk_free : (freeL [] 24).length = 6 := by decide
theorem wk_need : needN 121 = 2 := by decide
theorem addD_good {d : Dev} (h : DGood d) {l : List (Int × List Sec)} (h1 : ∀ x ∈ l, BOk x.2) (h2 : ∀ x ∈ l, thereB d.pages.length x.1 = true) : DGood (addD d l) := by
  refine ⟨h.pages, fun x hx => ?_, fun x hx => ?_, h.np⟩
  · rcases List.mem_append.1 hx with hx | hx
    · exact h.cache x hx
    · exact h1 x hx
  · rcases List.mem_append.1 hx with hx | hx
    · exact h.nums x hx
    · obtain ⟨p, hp, hq⟩ := there_nat (h2 x hx)
      rw [hp]
      exact wf_small (by omega) (by have := h.np; omega)
theorem wk_good : DGood wkD := addD_good (newD_good (by decide)) (blksF_bok _ _ _ _ 0 (by decide)) (fun x hx => may_there wk_may _ (blksF_key hx))
theorem wk_cache : wkD.cache.length = 2 := by
  show ([] ++ blksF 3 5 wkB 0 [19, 21]).length = 2
  rw [List.nil_append, blksF_length]; rfl
end Go.Proofs.Ytgfmpkcgkjpgnaa
end
section
/-
  FILES: slices.Equal of numbers.
-/
namespace Go.Proofs.Ytgfmpkcgkjpgnaa
open Go.ChangeShapes Go.WideShapes Go.ChangeAt Go.RowKit Agg Pg Dv Fi
attribute [local go_sem] Oper.semAt_some

theorem int_neq (a b : Int) (_ : True) (_ : True) (r : Bool) (hr : decide (a = b) = r) : (a != b) = !r := by
  subst hr
  by_cases h : a = b <;> simp [h]
def tEn (z : Int) : List Value := [.int .i64 z]
abbrev TmsF (w : World) (v : Value) (l : List Int) : Prop := SlR w v 1 l.length (l.flatMap tEn)
theorem tms_flat (l : List Int) : l.flatMap tEn = iC l := by
  unfold iC
  induction l with
  | nil => rfl
  | cons a l ih => rw [List.flatMap_cons, ih]; rfl
set_option maxHeartbeats 2000000 in
set_option maxRecDepth 100000 in
theorem equalF_any (P Q : List Int) (u v : Value) (w : World) (hu : TmsF w u P) (hv : TmsF w v Q) (hP : ∀ b ∈ P, True) (hQ : ∀ b ∈ Q, True) (r : Bool) (hr : decide (P = Q) = r) :
    Calls Try.prog 15 #[u, v] w fun e w' => e = .returned (.bool r) ∧ Below w.heap.size w w' := by
  obtain ⟨x, cap, rfl, hc1, hc2⟩ := SlR.shape hu
  obtain ⟨y, dap, rfl, hd1, hd2⟩ := SlR.shape hv
  unfold maxLen at hc2 hd2
  have HU := Lib.hid hu
  have HV := Lib.hid hv
  have HP := Lib.hid hP
  have HQ := Lib.hid hQ
  have HR := Lib.hid hr
  have HCP : Hid (∀ b ∈ P, (tEn b).length = 1) := Lib.hid (fun b hb => rfl)
  have HCQ : Hid (∀ b ∈ Q, (tEn b).length = 1) := Lib.hid (fun b hb => rfl)
  clear hu hv hP hQ hr
  have HB := Lib.hid (Below.refl w.heap.size w)
  go_enter Try.func15, Try.ntmps15
  by_cases hlen : P.length = Q.length
  · have HLE := Lib.hid hlen
    rw [← hlen] at HV hd1 ⊢
    clear hlen
    have hne : ((P.length : Int) != P.length) = false := by simp
    go_wp2_with fail
    clear hne
    go_loopw [13] (fun i wr => ∃ k : Nat, k ≤ P.length ∧ i = .int .i64 k ∧ Below w.heap.size w wr ∧ P.take k = Q.take k) (fun i _ => P.length - (intOf i).toNat)
    case atStart => exact ⟨0, by omega, rfl, Below.refl _ _, rfl⟩
    case round =>
      obtain ⟨k, hk, rfl, hb, htk⟩ := hrel
      replace HB := Lib.hid hb
      have HTK := Lib.hid htk
      have HU2 := Lib.hid (HU.out.keep HB.out)
      clear hb htk
      have hv2 : SlR wr (.slice y P.length dap) 1 Q.length (Q.flatMap tEn) := SlR.keep HV.out HB.out
      have HV2 := Lib.hid hv2
      clear hv2
      by_cases hlt : k < P.length
      · have hltq : k < Q.length := by have := HLE.out; omega
        obtain ⟨b, o, cap', hve, _, _, _, _⟩ := SlR.pos HU2.out (by decide) (by omega)
        simp only [Value.slice.injEq, true_and] at hve
        obtain ⟨rfl, rfl⟩ := hve
        obtain ⟨b2, o2, cap2, hve, _, _, _, _⟩ := SlR.pos HV2.out (by decide) (by omega)
        simp only [Value.slice.injEq, true_and] at hve
        obtain ⟨rfl, _, rfl⟩ := hve
        have hcu := Lib.hid (flat_at tEn 1 (by decide) HU2.out HCP.out hlt)
        have hcv := Lib.hid (flat_at tEn 1 (by decide) HV2.out HCQ.out hltq)
        obtain ⟨q, hq⟩ : ∃ q, decide (P[k] = Q[k]) = q := ⟨_, rfl⟩
        have HNQ := Lib.hid (int_neq P[k] Q[k] (HP.out _ (List.getElem_mem hlt)) (HQ.out _ (List.getElem_mem hltq)) q hq)
        have HQ2 := Lib.hid hq
        have HST : Hid (q = true → P.take (k + 1) = Q.take (k + 1)) := by
          refine Lib.hid (fun e => ?_)
          rw [e, decide_eq_true_eq] at hq
          rw [List.take_succ_eq_append_getElem hlt, List.take_succ_eq_append_getElem hltq, HTK.out, hq]
        have HNE : Hid (q = false → P ≠ Q) := by
          refine Lib.hid (fun e he => ?_)
          rw [e, decide_eq_false_iff_not] at hq
          exact hq (by subst he; rfl)
        clear hq
        obtain ⟨A, hA⟩ : ∃ A, P[k] = A := ⟨_, rfl⟩
        obtain ⟨B, hB⟩ : ∃ B, Q[k] = B := ⟨_, rfl⟩
        rw [hA] at hcu
        rw [hB] at hcv
        rw [hA, hB] at HNQ HQ2
        clear hA hB
        go_upto_region 6 with (fail)
        refine Agg.chainR 9 (by kernel_rfl) (by kernel_rfl) ?_
        simp only [List.take_succ_cons, List.take_zero, List.drop_succ_cons, List.drop_zero]
        refine Agg.chMove rfl rfl rfl rfl ?_
        refine Agg.chMove rfl rfl rfl rfl ?_
        refine Agg.chIA tiInt (by omega) (by omega) rfl rfl rfl rfl rfl ?_
        refine Agg.chLoad rfl rfl rfl rfl (by decide +kernel) (hcu.out 0 _ rfl) ?_
        refine Agg.chMove rfl rfl rfl rfl ?_
        refine Agg.chMove rfl rfl rfl rfl ?_
        refine Agg.chIA tiInt (by omega) (by omega) rfl rfl rfl rfl rfl ?_
        refine Agg.chLoad rfl rfl rfl rfl (by decide +kernel) (hcv.out 0 _ rfl) ?_
        refine Agg.chNe (!q) HNQ.out rfl rfl rfl rfl rfl ?_
        refine Agg.chEnd ?_
        intro vs w1 hb _
        refine Agg.wpNil ?_
        simp only [List.reverse, List.reverseAux, Agg.fill, List.set_cons_succ, List.set_cons_zero]
        replace HB := Lib.hid (HB.out.trans (hb.mono HB.out.size))
        clear hb
        cases q
        · obtain rfl : r = false := by rw [← HR.out]; simpa using HNE.out rfl
          rw [show (!false) = true from rfl]
          go_wp2_with fail
          go_ret
          exact ⟨rfl, HB.out⟩
        · rw [show (!true) = false from rfl]
          go_wp2_with fail
          go_roundw
          case rel => exact ⟨k + 1, by omega, by go_num, HB.out, HST.out rfl⟩
          case measure => simp [intOf]; omega
      · obtain rfl : k = P.length := by omega
        obtain rfl : r = true := by
          rw [← HR.out]
          have := HTK.out
          rw [List.take_length, HLE.out, List.take_length] at this
          simpa using this
        go_wp2_with fail
        go_ret
        exact ⟨rfl, HB.out⟩
  · have hne : ((P.length : Int) != Q.length) = true := by simp; omega
    obtain rfl : r = false := by rw [← HR.out]; simp; intro e; exact hlen (by rw [e])
    clear hlen
    go_wp2_with fail
    go_ret
    exact ⟨rfl, HB.out⟩
theorem eqI_any (P Q : List Int) (u v : Value) (w : World) (hu : Ints w u P) (hv : Ints w v Q) (r : Bool) (hr : decide (P = Q) = r) :
    Calls Try.prog 15 #[u, v] w fun e w' => e = .returned (.bool r) ∧ Below w.heap.size w w' :=
  equalF_any P Q u v w (by show SlR _ _ _ _ _; rw [tms_flat]; exact hu) (by show SlR _ _ _ _ _; rw [tms_flat]; exact hv) (fun _ _ => trivial) (fun _ _ => trivial) r hr
end Go.Proofs.Ytgfmpkcgkjpgnaa
end
section
/-
  FILES: slices.Equal of bytes.
-/
namespace Go.Proofs.Ytgfmpkcgkjpgnaa
open Go.ChangeShapes Go.WideShapes Go.ChangeAt Go.RowKit Agg Pg Dv Fi
attribute [local go_sem] Oper.semAt_some

def tBy (b : UInt8) : List Value := [.int .u8 (b.toNat : Int)]
abbrev BysF (w : World) (v : Value) (l : List UInt8) : Prop := SlR w v 1 l.length (l.flatMap tBy)
theorem bys_flat (l : List UInt8) : l.flatMap tBy = bv l := by
  unfold bv
  induction l with
  | nil => rfl
  | cons a l ih => rw [List.flatMap_cons, ih]; rfl
theorem by_neq (a b : UInt8) (_ : True) (_ : True) (r : Bool) (hr : decide (a = b) = r) : ((a.toNat : Int) != (b.toNat : Int)) = !r := by
  subst hr
  by_cases h : a = b
  · subst h; simp
  · have : a.toNat ≠ b.toNat := fun e => h (UInt8.toNat_inj.1 e)
    have h2 : ((a.toNat : Int) == (b.toNat : Int)) = false := beq_false_of_ne (by omega)
    simp [h, bne, h2]
set_option maxHeartbeats 2000000 in
set_option maxRecDepth 100000 in
theorem equalY_any (P Q : List UInt8) (u v : Value) (w : World) (hu : BysF w u P) (hv : BysF w v Q) (hP : ∀ b ∈ P, True) (hQ : ∀ b ∈ Q, True) (r : Bool) (hr : decide (P = Q) = r) :
    Calls Try.prog 25 #[u, v] w fun e w' => e = .returned (.bool r) ∧ Below w.heap.size w w' := by
  obtain ⟨x, cap, rfl, hc1, hc2⟩ := SlR.shape hu
  obtain ⟨y, dap, rfl, hd1, hd2⟩ := SlR.shape hv
  unfold maxLen at hc2 hd2
  have HU := Lib.hid hu
  have HV := Lib.hid hv
  have HP := Lib.hid hP
  have HQ := Lib.hid hQ
  have HR := Lib.hid hr
  have HCP : Hid (∀ b ∈ P, (tBy b).length = 1) := Lib.hid (fun b hb => rfl)
  have HCQ : Hid (∀ b ∈ Q, (tBy b).length = 1) := Lib.hid (fun b hb => rfl)
  clear hu hv hP hQ hr
  have HB := Lib.hid (Below.refl w.heap.size w)
  go_enter Try.func25, Try.ntmps25
  by_cases hlen : P.length = Q.length
  · have HLE := Lib.hid hlen
    rw [← hlen] at HV hd1 ⊢
    clear hlen
    have hne : ((P.length : Int) != P.length) = false := by simp
    go_wp2_with fail
    clear hne
    go_loopw [13] (fun i wr => ∃ k : Nat, k ≤ P.length ∧ i = .int .i64 k ∧ Below w.heap.size w wr ∧ P.take k = Q.take k) (fun i _ => P.length - (intOf i).toNat)
    case atStart => exact ⟨0, by omega, rfl, Below.refl _ _, rfl⟩
    case round =>
      obtain ⟨k, hk, rfl, hb, htk⟩ := hrel
      replace HB := Lib.hid hb
      have HTK := Lib.hid htk
      have HU2 := Lib.hid (HU.out.keep HB.out)
      clear hb htk
      have hv2 : SlR wr (.slice y P.length dap) 1 Q.length (Q.flatMap tBy) := SlR.keep HV.out HB.out
      have HV2 := Lib.hid hv2
      clear hv2
      by_cases hlt : k < P.length
      · have hltq : k < Q.length := by have := HLE.out; omega
        obtain ⟨b, o, cap', hve, _, _, _, _⟩ := SlR.pos HU2.out (by decide) (by omega)
        simp only [Value.slice.injEq, true_and] at hve
        obtain ⟨rfl, rfl⟩ := hve
        obtain ⟨b2, o2, cap2, hve, _, _, _, _⟩ := SlR.pos HV2.out (by decide) (by omega)
        simp only [Value.slice.injEq, true_and] at hve
        obtain ⟨rfl, _, rfl⟩ := hve
        have hcu := Lib.hid (flat_at tBy 1 (by decide) HU2.out HCP.out hlt)
        have hcv := Lib.hid (flat_at tBy 1 (by decide) HV2.out HCQ.out hltq)
        obtain ⟨q, hq⟩ : ∃ q, decide (P[k] = Q[k]) = q := ⟨_, rfl⟩
        have HNQ := Lib.hid (by_neq P[k] Q[k] (HP.out _ (List.getElem_mem hlt)) (HQ.out _ (List.getElem_mem hltq)) q hq)
        have HQ2 := Lib.hid hq
        have HST : Hid (q = true → P.take (k + 1) = Q.take (k + 1)) := by
          refine Lib.hid (fun e => ?_)
          rw [e, decide_eq_true_eq] at hq
          rw [List.take_succ_eq_append_getElem hlt, List.take_succ_eq_append_getElem hltq, HTK.out, hq]
        have HNE : Hid (q = false → P ≠ Q) := by
          refine Lib.hid (fun e he => ?_)
          rw [e, decide_eq_false_iff_not] at hq
          exact hq (by subst he; rfl)
        clear hq
        obtain ⟨A, hA⟩ : ∃ A, P[k] = A := ⟨_, rfl⟩
        obtain ⟨B, hB⟩ : ∃ B, Q[k] = B := ⟨_, rfl⟩
        rw [hA] at hcu
        rw [hB] at hcv
        rw [hA, hB] at HNQ HQ2
        clear hA hB
        go_upto_region 6 with (fail)
        refine Agg.chainR 9 (by kernel_rfl) (by kernel_rfl) ?_
        simp only [List.take_succ_cons, List.take_zero, List.drop_succ_cons, List.drop_zero]
        refine Agg.chMove rfl rfl rfl rfl ?_
        refine Agg.chMove rfl rfl rfl rfl ?_
        refine Agg.chIA ti25 (by omega) (by omega) rfl rfl rfl rfl rfl ?_
        refine Agg.chLoad rfl rfl rfl rfl (by decide +kernel) (hcu.out 0 _ rfl) ?_
        refine Agg.chMove rfl rfl rfl rfl ?_
        refine Agg.chMove rfl rfl rfl rfl ?_
        refine Agg.chIA ti25 (by omega) (by omega) rfl rfl rfl rfl rfl ?_
        refine Agg.chLoad rfl rfl rfl rfl (by decide +kernel) (hcv.out 0 _ rfl) ?_
        refine Agg.chNe (!q) HNQ.out rfl rfl rfl rfl rfl ?_
        refine Agg.chEnd ?_
        intro vs w1 hb _
        refine Agg.wpNil ?_
        simp only [List.reverse, List.reverseAux, Agg.fill, List.set_cons_succ, List.set_cons_zero]
        replace HB := Lib.hid (HB.out.trans (hb.mono HB.out.size))
        clear hb
        cases q
        · obtain rfl : r = false := by rw [← HR.out]; simpa using HNE.out rfl
          rw [show (!false) = true from rfl]
          go_wp2_with fail
          go_ret
          exact ⟨rfl, HB.out⟩
        · rw [show (!true) = false from rfl]
          go_wp2_with fail
          go_roundw
          case rel => exact ⟨k + 1, by omega, by go_num, HB.out, HST.out rfl⟩
          case measure => simp [intOf]; omega
      · obtain rfl : k = P.length := by omega
        obtain rfl : r = true := by
          rw [← HR.out]
          have := HTK.out
          rw [List.take_length, HLE.out, List.take_length] at this
          simpa using this
        go_wp2_with fail
        go_ret
        exact ⟨rfl, HB.out⟩
  · have hne : ((P.length : Int) != Q.length) = true := by simp; omega
    obtain rfl : r = false := by rw [← HR.out]; simp; intro e; exact hlen (by rw [e])
    clear hlen
    go_wp2_with fail
    go_ret
    exact ⟨rfl, HB.out⟩
theorem eqY_any (P Q : List UInt8) (u v : Value) (w : World) (hu : Bytes w u P) (hv : Bytes w v Q) (r : Bool) (hr : decide (P = Q) = r) :
    Calls Try.prog 25 #[u, v] w fun e w' => e = .returned (.bool r) ∧ Below w.heap.size w w' :=
  equalY_any P Q u v w (by show SlR _ _ _ _ _; rw [bys_flat]; exact hu) (by show SlR _ _ _ _ _; rw [bys_flat]; exact hv) (fun _ _ => trivial) (fun _ _ => trivial) r hr
end Go.Proofs.Ytgfmpkcgkjpgnaa
end
