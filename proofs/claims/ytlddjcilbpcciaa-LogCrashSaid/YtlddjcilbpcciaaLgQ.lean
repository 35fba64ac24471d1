/-
  THE LOG: parts, an iterator over the pages of the log that are read.
-/
import Derived.Test.YtlddjcilbpcciaaLg3
import Derived.Test.YtlddjcilbpcciaaChainIn
section
namespace Lg
open Go Go.RowKit Agg Pg Dv
end Lg
namespace Go.Proofs.Ytlddjcilbpcciaa
open Go.ChangeShapes Go.WideShapes Go.ChangeAt Go.RowKit Agg Pg Dv Lg
attribute [local go_sem] Oper.semAt_some

/-- the block of a page of the log -/
def atL (d : Dev) (q : Nat) : List Sec := saysP d.pages d.cache (2 + (q : Int))
theorem atL_bok {d : Dev} (h : DGood d) (q : Nat) : BOk (atL d q) := saysP_bok h.pages h.cache _
theorem read_at {d : Dev} (h1 : rightD d = true) (h2 : d.off = false) {q : Nat} (hq : q < 16) : readP d (2 + (q : Int)) = (0, atL d q) := by
  refine read_pow h1 h2 ?_
  have := (right_six h1).1
  unfold thereB
  simp only [Bool.and_eq_true, decide_eq_true_eq]
  omega
/-- how many pages of the log lie there, one behind the other -/
noncomputable def lenF (f : Nat → List Sec) : Nat → Nat → Nat
  | _, 0 => 0
  | p, n + 1 => if pOk (f p) then lenF f (p + 1) n + 1 else 0
theorem lenF_spec (f : Nat → List Sec) : ∀ (n p : Nat), lenF f p n ≤ n ∧ (∀ i, i < lenF f p n → pOk (f (p + i)) = true) ∧ (lenF f p n < n → pOk (f (p + lenF f p n)) = false) := by
  intro n
  induction n with
  | zero => exact fun p => ⟨Nat.le_refl _, fun i h => absurd h (by simp [lenF]), fun h => absurd h (by omega)⟩
  | succ n ih =>
    intro p
    rw [lenF]
    cases hp : pOk (f p) with
    | true =>
      rw [if_pos rfl]
      obtain ⟨h1, h2, h3⟩ := ih (p + 1)
      refine ⟨by omega, fun i hi => ?_, fun h => ?_⟩
      · cases i with
        | zero => exact hp
        | succ i => rw [show p + (i + 1) = p + 1 + i by omega]; exact h2 i (by omega)
      · rw [show p + (lenF f (p + 1) n + 1) = p + 1 + lenF f (p + 1) n by omega]; exact h3 (by omega)
    | false =>
      rw [if_neg (by decide)]
      exact ⟨by omega, fun i h => absurd h (by omega), fun _ => hp⟩
theorem lenF_more {f : Nat → List Sec} {p n k : Nat} (hk : k ≤ lenF f p n) (hn : k < n) (h : pOk (f (p + k)) = true) : k < lenF f p n := by
  obtain ⟨_, _, h3⟩ := lenF_spec f n p
  rcases Nat.lt_or_ge k (lenF f p n) with h4 | h4
  · exact h4
  · obtain rfl : k = lenF f p n := by omega
    rw [h3 hn] at h; cases h
theorem lenF_end {f : Nat → List Sec} {p n k : Nat} (hk : k ≤ lenF f p n) (h : k = n ∨ pOk (f (p + k)) = false) : lenF f p n = k := by
  obtain ⟨h1, h2, _⟩ := lenF_spec f n p
  rcases Nat.lt_or_ge k (lenF f p n) with h4 | h4
  · rcases h with h | h
    · omega
    · rw [h2 k h4] at h; cases h
  · omega
noncomputable def partsF (f : Nat → List Sec) (p : Nat) : List (List Sec) := (List.range (lenF f p (16 - p))).map fun i => f (p + i)
theorem partsF_length (f : Nat → List Sec) (p : Nat) : (partsF f p).length = lenF f p (16 - p) := by simp [partsF]
theorem partsF_get (f : Nat → List Sec) (p i : Nat) (h : i < (partsF f p).length) : (partsF f p)[i] = f (p + i) := by simp [partsF]
/-- a page of the log as a value -/
def EncP (A W : World) (b : List Sec) (vs : Array Value) : Prop := ∃ x c, vs = #[.agg (.slice x (pData b).length c :: .int .u64 (pSt b : Int) :: blkC b).toArray] ∧ W.ownsRow A.heap.size 5 1 (.slice x (pData b).length c) (pData b).length (bv (pData b))
theorem build_part (x : Option Addr) (n c : Nat) (s : Int) (b : List Sec) (hb : BOk b) (w : World) : (Instr.build 97 #[(0, .slice x n c), (1, .int .u64 s), (2, .agg (blkC b).toArray)]).run Try.prog w = .ok (.agg (.slice x n c :: .int .u64 s :: blkC b).toArray) w := by
  have h := run_build_seq (P := Try.prog) (t := 97) (pl := [(0, 1), (1, 1), (2, 132)]) (N := 134) (by kernel_rfl) rfl [.slice x n c, .int .u64 s, .agg (blkC b).toArray] (by simp [Value.cells, bok_cells hb]) (by simp [Value.cells, bok_cells hb]) w
  simpa [Value.cells] using h
/-- what a round leaves as it is -/
def KpP (n0 ga gd : Nat) (A B : World) : Prop := A.heap.size ≤ B.heap.size ∧ Agr n0 A B ∧ B.heap[ga]? = A.heap[ga]? ∧ B.heap[gd]? = A.heap[gd]?
theorem KpP.trans {n0 ga gd : Nat} {A B C : World} (h1 : KpP n0 ga gd A B) (h2 : KpP n0 ga gd B C) : KpP n0 ga gd A C := ⟨Nat.le_trans h1.1 h2.1, h1.2.1.trans h2.2.1, h2.2.2.1.trans h1.2.2.1, h2.2.2.2.trans h1.2.2.2⟩
theorem DevR.agr {w w' : World} {v : Value} {d : Dev} (h : DevR w v d) (ha : Agr w.heap.size w w') : DevR w' v d := by
  obtain ⟨x, y, c1, c2, h1, h2, h3⟩ := h
  exact ⟨x, y, c1, c2, h1, SlR.agr h2 ha, SlR.agr h3 ha⟩
theorem parts_any (a b c e : Value) (p : Int) (w : World) :
    Calls Try.prog 49 #[.agg #[a, b, c, e], .int .i64 p] w fun r w' => r = .returned (.func (.func 56) #[] #[.pointer (some ⟨w.heap.size + 1, 0, none⟩), .pointer (some ⟨w.heap.size, 0, none⟩)]) ∧ Blk w' w.heap.size 28 [a, b, c, e] ∧ Blk w' (w.heap.size + 1) 3 [.int .i64 p] ∧ w'.heap.size = w.heap.size + 2 ∧ Below w.heap.size w w' := by
  have HB := Lib.hid (Below.refl w.heap.size w)
  go_enter Try.func49, Try.ntmps49
  go_wp2_with fail
  go_ret
  exact ⟨rfl, (Blk.new w 28 #[a, b, c, e]).al _, Blk.newAt (w.alloc _) 3 #[.int .i64 p] _ (by simp), by simp, bel_alloc (bel_alloc HB.out _) _⟩
set_option maxHeartbeats 4000000 in
set_option maxRecDepth 100000 in
theorem parts_iter (d : Dev) (p0 : Nat) (px cx : Option Addr) (pc cc gd ga : Nat) (w0 : World) (hd : DGood d) (hc : d.cache.length ≤ 1000000) (hr : rightD d = true) (ho : d.off = false) (hp : p0 ≤ 16)
    (hD : DevR w0 (.agg #[.slice px d.pages.length pc, .slice cx d.cache.length cc, .int .i64 d.fuse, .bool d.off]) d) :
    IterR Try.prog 56 #[.pointer (some ⟨ga, 0, none⟩), .pointer (some ⟨gd, 0, none⟩)] EncP (fun A B => Below A.heap.size A B) (KpP w0.heap.size ga gd) (partsF (atL d) p0)
      (fun W => w0.heap.size ≤ W.heap.size ∧ Agr w0.heap.size w0 W ∧ Blk W ga 3 [.int .i64 (p0 : Int)] ∧ Blk W gd 28 [.slice px d.pages.length pc, .slice cx d.cache.length cc, .int .i64 d.fuse, .bool d.off]) := by
  intro lr J Jx W hok hJ hJx hY h0
  have HJ := Lib.hid hJ
  have HJX := Lib.hid hJx
  have HDG := Lib.hid hd
  have HD0 := Lib.hid hD
  have HYY : Hid (∀ k, k < lenF (atL d) p0 (16 - p0) → ∀ (A W1 : World) (vs : Array Value), J k A → Below A.heap.size A W1 → EncP A W1 (atL d (p0 + k)) vs → YieldAt Fence.wide 1 Try.prog lr vs W1 fun e W' => (e = .returned (.bool true) ∧ J (k + 1) W' ∧ KpP w0.heap.size ga gd W1 W') ∨ (e = .returned (.bool false) ∧ Jx (k + 1) W')) := Lib.hid (fun k hk A W1 vs hj hab he => by
    have hk2 : k < (partsF (atL d) p0).length := by rw [partsF_length]; exact hk
    exact hY k hk2 A W1 vs hj hab (by rw [partsF_get]; exact he))
  have HOK := Lib.hid hok
  have H00 := Lib.hid h0
  have HRA := Lib.hid (fun q (hq : q < 16) => read_at hr ho hq)
  have HBK := Lib.hid (fun q => atL_bok hd q)
  rw [partsF_length]
  clear hJ hJx hY hok h0 hd hD hr ho
  obtain ⟨L, hL⟩ : ∃ L, lenF (atL d) p0 (16 - p0) = L := ⟨_, rfl⟩
  have HMO : Hid (∀ k, k ≤ L → k < 16 - p0 → pOk (atL d (p0 + k)) = true → k < L) := Lib.hid (by rw [← hL]; exact fun k => lenF_more)
  have HEN : Hid (∀ k, k ≤ L → (k = 16 - p0 ∨ pOk (atL d (p0 + k)) = false) → L = k) := Lib.hid (by rw [← hL]; exact fun k => lenF_end)
  rw [hL] at HYY ⊢
  have hLe : L ≤ 16 - p0 := by rw [← hL]; exact (lenF_spec _ _ _).1
  clear hL
  go_enter Try.func56, Try.ntmps56
  go_step3
  go_wp2_with fail
  go_step3
  have c0 := HOK.out.2.2.1.cell 0
  simp only [List.getElem?_cons_zero] at c0
  go_wp2_with fail
  clear c0
  go_loopw [4] (fun i wr => ∃ k : Nat, k ≤ L ∧ i = .int .i64 ((p0 + k : Nat) : Int) ∧ w0.heap.size ≤ wr.heap.size ∧ Agr w0.heap.size w0 wr ∧ Blk wr ga 3 [.int .i64 (p0 : Int)] ∧ Blk wr gd 28 [.slice px d.pages.length pc, .slice cx d.cache.length cc, .int .i64 d.fuse, .bool d.off] ∧ J k wr) (fun i _ => 16 - (intOf i).toNat)
  case atStart => exact ⟨0, by omega, rfl, HOK.out.1, HOK.out.2.1, HOK.out.2.2.1, HOK.out.2.2.2, H00.out⟩
  case round =>
    obtain ⟨k, hk, rfl, h1, h2, h3, h4, h5⟩ := hrel
    have HA := Lib.hid h2
    have HGA := Lib.hid h3
    have HGD := Lib.hid h4
    have HJ1 := Lib.hid h5
    clear h2 h3 h4 h5 HOK H00
    obtain ⟨wA, hwA⟩ : ∃ x, x = wr := ⟨_, rfl⟩
    subst hwA
    obtain ⟨q, hq⟩ : ∃ q, p0 + k = q := ⟨_, rfl⟩
    rw [hq]
    by_cases hlt : q < 16
    · have hrd := fun W v hv => read_R (w := W) (v := v) HDG.out hc hv (2 + (q : Int))
      rw [HRA.out q hlt] at hrd
      have hbk := HBK.out q
      have hy := HYY.out k
      have hmo := HMO.out k
      have hen := HEN.out k
      rw [hq] at hy hmo hen
      have HD := Lib.hid (HD0.out.agr HA.out)
      generalize atL d q = b at *
      have HRD := Lib.hid hrd
      have HBB := Lib.hid hbk
      have HY := Lib.hid hy
      have HMK := Lib.hid hmo
      have HEK := Lib.hid hen
      clear hrd hbk hy hmo hen
      have HB := Lib.hid (Below.refl wA.heap.size wA)
      have hgd := HGD.out
      go_wp2_with (refine Agg.gLoadB 4 hgd rfl rfl rfl rfl (by decide +kernel) ?_; simp only [Act.put, List.setIfInBounds_toArray, List.set_cons_succ, List.set_cons_zero])
      clear hgd
      refine (HRD.out wA _ HD.out).mono ?_
      rintro e w21 ⟨rfl, hb⟩
      replace HB := Lib.hid (HB.out.trans (hb.mono HB.out.size))
      replace HD := Lib.hid (HD.out.keep hb)
      replace HGA := Lib.hid (HGA.out.keep hb)
      replace HGD := Lib.hid (HGD.out.keep hb)
      clear hb
      have h132 := bok_cells HBB.out
      have hone := blkC_one b
      go_upto_region 4 with (first
        | (refine Agg.allocRow 54 (blkC zeroB).toArray rfl rfl (by kernel_rfl) ?_; simp only [Act.put, List.setIfInBounds_toArray, List.set_cons_succ, List.set_cons_zero])
        | (refine Agg.gStoreNew 132 (blkC b) rfl rfl rfl rfl rfl rfl (by decide +kernel) h132 zero132 hone ?_; simp only [Act.put]))
      refine Agg.wp_at fun w22 hw22 => ?_
      have hb : Below w21.heap.size w21 w22 := by rw [hw22.out]; repeat (first | exact Below.refl _ _ | refine Agg.bel_drew ?_ | refine Agg.bel_alloc ?_ _)
      replace HB := Lib.hid (HB.out.trans (hb.mono HB.out.size))
      replace HD := Lib.hid (HD.out.keep hb)
      replace HGA := Lib.hid (HGA.out.keep hb)
      replace HGD := Lib.hid (HGD.out.keep hb)
      clear hb
      have HX : Hid (Blk w22 w21.heap.size 54 (blkC b)) := by show Blk _ _ _ _; rw [hw22.out]; exact Blk.new w21 54 (blkC b).toArray
      clear hw22
      generalize w21.heap.size = g5 at *
      obtain ⟨⟨⟨k2, d2⟩, n2, e2⟩, hrr⟩ : ∃ r, readR b = r := ⟨_, rfl⟩
      have hpo : pOk b = (decide (e2 = 0) && decide (k2 = 2) && decide (3 ≤ d2.length)) := by unfold pOk; rw [hrr]
      have hpd : pData b = d2 := by unfold pData; rw [hrr]
      have hps : pSt b = n2 := by unfold pSt; rw [hrr]
      have HRR := Lib.hid hrr
      have HPO := Lib.hid hpo
      have HPD := Lib.hid (And.intro hpd hps)
      clear hrr hpo hpd hps
      have hx := HX.out
      go_wp2_with (refine Agg.gLoadB 132 hx h132 rfl rfl rfl (by decide +kernel) ?_; simp only [Act.put, List.setIfInBounds_toArray, List.set_cons_succ, List.set_cons_zero])
      clear hx h132 hone
      have HBS0 : Hid (wA.heap.size ≤ w22.heap.size) := Lib.hid HB.out.size
      refine (pgRead_any b HBB.out w22 k2 d2 n2 e2 HRR.out).mono ?_
      rintro e w23 ⟨u2, rfl, hu2, hb⟩
      replace HB := Lib.hid (HB.out.trans (hb.mono HB.out.size))
      replace HD := Lib.hid (HD.out.keep hb)
      replace HGA := Lib.hid (HGA.out.keep hb)
      replace HGD := Lib.hid (HGD.out.keep hb)
      replace HX := Lib.hid (HX.out.keep hb)
      clear hb
      obtain ⟨ux, uc, rfl, _, _⟩ := (ownSl hu2).shape
      have HU : Hid (w23.ownsRow wA.heap.size 5 1 (.slice ux d2.length uc) d2.length (bv d2)) := Lib.hid (own_base hu2 HBS0.out)
      clear hu2 HRR
      go_upto_region 5 with (first
        | (refine Agg.allocRow 86 #[.int .i64 0, .slice none 0 0] rfl rfl (by kernel_rfl) ?_; simp only [Act.put, List.setIfInBounds_toArray, List.set_cons_succ, List.set_cons_zero])
        | (refine Agg.gStoreNew 2 [.int .i64 k2, .slice ux d2.length uc] rfl rfl rfl rfl rfl rfl (by decide +kernel) rfl rfl (by simp [Value.oneCell']) ?_; simp only [Act.put]))
      refine Agg.wp_at fun w24 hw24 => ?_
      have hb : Below w23.heap.size w23 w24 := by rw [hw24.out]; repeat (first | exact Below.refl _ _ | refine Agg.bel_drew ?_ | refine Agg.bel_alloc ?_ _)
      replace HB := Lib.hid (HB.out.trans (hb.mono HB.out.size))
      replace HD := Lib.hid (HD.out.keep hb)
      replace HGA := Lib.hid (HGA.out.keep hb)
      replace HGD := Lib.hid (HGD.out.keep hb)
      replace HX := Lib.hid (HX.out.keep hb)
      replace HU := Lib.hid (HU.out.keep hb)
      clear hb
      have HPG : Hid (Blk w24 w23.heap.size 86 [.int .i64 k2, .slice ux d2.length uc]) := by show Blk _ _ _ _; rw [hw24.out]; exact Blk.new w23 86 #[.int .i64 k2, .slice ux d2.length uc]
      clear hw24
      generalize w23.heap.size = g7 at *
      by_cases f1 : e2 = 0
      · subst f1
        by_cases f2 : k2 = 2
        · subst f2
          by_cases f3 : 3 ≤ d2.length
          · have f3c : decide ((d2.length : Int) < 3) = false := by simp; omega
            have hok : pOk b = true := by rw [HPO.out]; simp [f3]
            have hkL := HMK.out hk (by omega) hok
            refine (wpIn_wide (n := 2)).1 ?_
            refine Agg.listIn 24 (by kernel_rfl) ?_
            simp only [List.take_succ_cons, List.take_zero, List.drop_succ_cons, List.drop_zero]
            refine Agg.chMove rfl rfl rfl rfl ?_
            refine Agg.chNe false (by simp) rfl rfl rfl rfl rfl ?_
            refine Agg.chMove rfl rfl rfl rfl ?_
            refine Agg.chMove rfl rfl rfl rfl ?_
            refine Agg.chNe false (by simp) rfl rfl rfl rfl rfl ?_
            refine Agg.chPick rfl rfl rfl rfl rfl ?_
            refine Agg.chMove rfl rfl rfl rfl ?_
            refine Agg.chFA fo_Page_0 rfl rfl rfl rfl ?_
            refine Agg.chLoadB HPG.out (by decide +kernel) rfl rfl (by rfl) rfl rfl ?_
            refine Agg.chNe false (by simp) rfl rfl rfl rfl rfl ?_
            refine Agg.chPick rfl rfl rfl rfl rfl ?_
            refine Agg.chMove rfl rfl rfl rfl ?_
            refine Agg.chFA fo_Page_1 rfl rfl rfl rfl ?_
            refine Agg.chLoadB HPG.out (by decide +kernel) rfl rfl (by rfl) rfl rfl ?_
            refine Agg.chLen Try.underlying37 rfl rfl rfl rfl ?_
            refine Agg.chLt false f3c rfl rfl rfl rfl rfl ?_
            refine Agg.chPick rfl rfl rfl rfl rfl ?_
            refine Agg.chMove rfl rfl rfl rfl ?_
            refine Agg.chMove rfl rfl rfl rfl ?_
            refine Agg.chFA fo_Page_1 rfl rfl rfl rfl ?_
            refine Agg.chLoadB HPG.out (by decide +kernel) rfl rfl (by rfl) rfl rfl ?_
            refine Agg.chMove rfl rfl rfl rfl ?_
            refine Agg.chRowB 132 HX.out (bok_cells HBB.out) (by decide +kernel) rfl rfl rfl rfl ?_
            refine Agg.chBuild (v := .agg (.slice ux d2.length uc :: .int .u64 (n2 : Int) :: blkC b).toArray) rfl rfl rfl rfl (fun W => by simpa using build_part ux d2.length uc (n2 : Int) b HBB.out W) ?_
            refine Agg.chEnd ?_
            intro vs w25 hb _
            simp only [List.reverse, List.reverseAux, Agg.fill, List.set_cons_succ, List.set_cons_zero]
            replace HB := Lib.hid (HB.out.trans (hb.mono HB.out.size))
            replace HD := Lib.hid (HD.out.keep hb)
            replace HGA := Lib.hid (HGA.out.keep hb)
            replace HGD := Lib.hid (HGD.out.keep hb)
            replace HX := Lib.hid (HX.out.keep hb)
            replace HU := Lib.hid (HU.out.keep hb)
            replace HPG := Lib.hid (HPG.out.keep hb)
            clear hb
            have henc : EncP wA w25 b #[.agg (.slice ux d2.length uc :: .int .u64 (n2 : Int) :: blkC b).toArray] := ⟨ux, uc, by rw [HPD.out.1, HPD.out.2], by rw [HPD.out.1]; exact HU.out⟩
            obtain ⟨fn, tmps, assign, body, hy, hR⟩ := HY.out hkL wA w25 _ HJ1.out HB.out henc
            clear henc
            gi_wp2
            refine hR.mono ?_
            rintro e W2 (⟨rfl, hj2, hk2⟩ | ⟨rfl, hjx2⟩)
            · have HJ3 := Lib.hid hj2
              have HK3 := Lib.hid hk2
              have HA3 : Hid (Agr w0.heap.size w0 W2) := Lib.hid ((HA.out.trans ((agr_below HB.out).mono h1)).trans hk2.2.1)
              have HGA3 : Hid (Blk W2 ga 3 [.int .i64 (p0 : Int)]) := Lib.hid (hk2.2.2.1.trans HGA.out)
              have HGD3 : Hid (Blk W2 gd 28 [.slice px d.pages.length pc, .slice cx d.cache.length cc, .int .i64 d.fuse, .bool d.off]) := Lib.hid (hk2.2.2.2.trans HGD.out)
              have hs3 : w0.heap.size ≤ W2.heap.size := Nat.le_trans (Nat.le_trans h1 HB.out.size) hk2.1
              clear hj2 hk2 hR hy
              gi_wp2
              go_wp2_with fail
              exact ⟨⟨k + 1, by omega, by rw [show ((p0 + (k + 1) : Nat) : Int) = (q : Int) + 1 by omega], hs3, HA3.out, HGA3.out, HGD3.out, HJ3.out⟩, by simp [intOf]; omega⟩
            · have HJX2 := Lib.hid hjx2
              clear hjx2 hR hy
              gi_wp2
              go_wp2_with fail
              rw [Exit.noGoto_normal]
              go_end0
              exact ⟨⟨_, rfl⟩, .inr ⟨_, hkL, HJX2.out⟩⟩
          · have f3c : decide ((d2.length : Int) < 3) = true := by simp; omega
            refine Agg.listR 27 (by kernel_rfl) ?_
            simp only [List.take_succ_cons, List.take_zero, List.drop_succ_cons, List.drop_zero]
            refine Agg.chMove rfl rfl rfl rfl ?_
            refine Agg.chNe false (by simp) rfl rfl rfl rfl rfl ?_
            refine Agg.chMove rfl rfl rfl rfl ?_
            refine Agg.chMove rfl rfl rfl rfl ?_
            refine Agg.chNe false (by simp) rfl rfl rfl rfl rfl ?_
            refine Agg.chPick rfl rfl rfl rfl rfl ?_
            refine Agg.chMove rfl rfl rfl rfl ?_
            refine Agg.chFA fo_Page_0 rfl rfl rfl rfl ?_
            refine Agg.chLoadB HPG.out (by decide +kernel) rfl rfl (by rfl) rfl rfl ?_
            refine Agg.chNe false (by simp) rfl rfl rfl rfl rfl ?_
            refine Agg.chPick rfl rfl rfl rfl rfl ?_
            refine Agg.chMove rfl rfl rfl rfl ?_
            refine Agg.chFA fo_Page_1 rfl rfl rfl rfl ?_
            refine Agg.chLoadB HPG.out (by decide +kernel) rfl rfl (by rfl) rfl rfl ?_
            refine Agg.chLen Try.underlying37 rfl rfl rfl rfl ?_
            refine Agg.chLt true f3c rfl rfl rfl rfl rfl ?_
            refine Agg.chPick rfl rfl rfl rfl rfl ?_
            refine Agg.chMove rfl rfl rfl rfl ?_
            refine Agg.chSkip rfl rfl ?_
            refine Agg.chSkip rfl rfl ?_
            refine Agg.chSkip rfl rfl ?_
            refine Agg.chSkip rfl rfl ?_
            refine Agg.chSkip rfl rfl ?_
            refine Agg.chSkip rfl rfl ?_
            refine Agg.chSkip rfl rfl ?_
            refine Agg.chSkip rfl rfl ?_
            refine Agg.chPick rfl rfl rfl rfl rfl ?_
            refine Agg.chEnd ?_
            intro vs w26 hb _
            show Exit.then _ _ Exit.normal _ _
            simp only [List.reverse, List.reverseAux, Agg.fill, List.set_cons_succ, List.set_cons_zero]
            replace HB := Lib.hid (HB.out.trans (hb.mono HB.out.size))
            replace HD := Lib.hid (HD.out.keep hb)
            replace HGA := Lib.hid (HGA.out.keep hb)
            replace HGD := Lib.hid (HGD.out.keep hb)
            replace HX := Lib.hid (HX.out.keep hb)
            replace HU := Lib.hid (HU.out.keep hb)
            replace HPG := Lib.hid (HPG.out.keep hb)
            clear hb
            have HJ2 := Lib.hid (HJ.out _ _ _ HJ1.out HB.out)
            go_wp2_with fail
            go_end0
            have e := HEK.out hk (.inr (by rw [HPO.out]; simp [f3]))
            rw [e]
            exact ⟨⟨_, rfl⟩, .inl HJ2.out⟩
        · have f2b : (k2 != 2) = true := bne_iff_ne.2 f2
          refine Agg.listR 27 (by kernel_rfl) ?_
          simp only [List.take_succ_cons, List.take_zero, List.drop_succ_cons, List.drop_zero]
          refine Agg.chMove rfl rfl rfl rfl ?_
          refine Agg.chNe false (by simp) rfl rfl rfl rfl rfl ?_
          refine Agg.chMove rfl rfl rfl rfl ?_
          refine Agg.chMove rfl rfl rfl rfl ?_
          refine Agg.chNe false (by simp) rfl rfl rfl rfl rfl ?_
          refine Agg.chPick rfl rfl rfl rfl rfl ?_
          refine Agg.chMove rfl rfl rfl rfl ?_
          refine Agg.chFA fo_Page_0 rfl rfl rfl rfl ?_
          refine Agg.chLoadB HPG.out (by decide +kernel) rfl rfl (by rfl) rfl rfl ?_
          refine Agg.chNe true f2b rfl rfl rfl rfl rfl ?_
          refine Agg.chPick rfl rfl rfl rfl rfl ?_
          refine Agg.chMove rfl rfl rfl rfl ?_
          refine Agg.chSkip rfl rfl ?_
          refine Agg.chSkip rfl rfl ?_
          refine Agg.chSkip rfl rfl ?_
          refine Agg.chSkip rfl rfl ?_
          refine Agg.chPick rfl rfl rfl rfl rfl ?_
          refine Agg.chMove rfl rfl rfl rfl ?_
          refine Agg.chSkip rfl rfl ?_
          refine Agg.chSkip rfl rfl ?_
          refine Agg.chSkip rfl rfl ?_
          refine Agg.chSkip rfl rfl ?_
          refine Agg.chSkip rfl rfl ?_
          refine Agg.chSkip rfl rfl ?_
          refine Agg.chSkip rfl rfl ?_
          refine Agg.chSkip rfl rfl ?_
          refine Agg.chPick rfl rfl rfl rfl rfl ?_
          refine Agg.chEnd ?_
          intro vs w27 hb _
          show Exit.then _ _ Exit.normal _ _
          simp only [List.reverse, List.reverseAux, Agg.fill, List.set_cons_succ, List.set_cons_zero]
          replace HB := Lib.hid (HB.out.trans (hb.mono HB.out.size))
          replace HD := Lib.hid (HD.out.keep hb)
          replace HGA := Lib.hid (HGA.out.keep hb)
          replace HGD := Lib.hid (HGD.out.keep hb)
          replace HX := Lib.hid (HX.out.keep hb)
          replace HU := Lib.hid (HU.out.keep hb)
          replace HPG := Lib.hid (HPG.out.keep hb)
          clear hb
          have HJ2 := Lib.hid (HJ.out _ _ _ HJ1.out HB.out)
          go_wp2_with fail
          go_end0
          have e := HEK.out hk (.inr (by rw [HPO.out]; simp [f2]))
          rw [e]
          exact ⟨⟨_, rfl⟩, .inl HJ2.out⟩
      · have f1b : (e2 != 0) = true := bne_iff_ne.2 f1
        refine Agg.listR 27 (by kernel_rfl) ?_
        simp only [List.take_succ_cons, List.take_zero, List.drop_succ_cons, List.drop_zero]
        refine Agg.chMove rfl rfl rfl rfl ?_
        refine Agg.chNe false (by simp) rfl rfl rfl rfl rfl ?_
        refine Agg.chMove rfl rfl rfl rfl ?_
        refine Agg.chMove rfl rfl rfl rfl ?_
        refine Agg.chNe true f1b rfl rfl rfl rfl rfl ?_
        refine Agg.chPick rfl rfl rfl rfl rfl ?_
        refine Agg.chMove rfl rfl rfl rfl ?_
        refine Agg.chSkip rfl rfl ?_
        refine Agg.chSkip rfl rfl ?_
        refine Agg.chSkip rfl rfl ?_
        refine Agg.chPick rfl rfl rfl rfl rfl ?_
        refine Agg.chMove rfl rfl rfl rfl ?_
        refine Agg.chSkip rfl rfl ?_
        refine Agg.chSkip rfl rfl ?_
        refine Agg.chSkip rfl rfl ?_
        refine Agg.chSkip rfl rfl ?_
        refine Agg.chPick rfl rfl rfl rfl rfl ?_
        refine Agg.chMove rfl rfl rfl rfl ?_
        refine Agg.chSkip rfl rfl ?_
        refine Agg.chSkip rfl rfl ?_
        refine Agg.chSkip rfl rfl ?_
        refine Agg.chSkip rfl rfl ?_
        refine Agg.chSkip rfl rfl ?_
        refine Agg.chSkip rfl rfl ?_
        refine Agg.chSkip rfl rfl ?_
        refine Agg.chSkip rfl rfl ?_
        refine Agg.chPick rfl rfl rfl rfl rfl ?_
        refine Agg.chEnd ?_
        intro vs w28 hb _
        show Exit.then _ _ Exit.normal _ _
        simp only [List.reverse, List.reverseAux, Agg.fill, List.set_cons_succ, List.set_cons_zero]
        replace HB := Lib.hid (HB.out.trans (hb.mono HB.out.size))
        replace HD := Lib.hid (HD.out.keep hb)
        replace HGA := Lib.hid (HGA.out.keep hb)
        replace HGD := Lib.hid (HGD.out.keep hb)
        replace HX := Lib.hid (HX.out.keep hb)
        replace HU := Lib.hid (HU.out.keep hb)
        replace HPG := Lib.hid (HPG.out.keep hb)
        clear hb
        have HJ2 := Lib.hid (HJ.out _ _ _ HJ1.out HB.out)
        go_wp2_with fail
        rw [Exit.noGoto_normal]
        go_end0
        have e := HEK.out hk (.inr (by rw [HPO.out]; simp [f1]))
        rw [e]
        exact ⟨⟨_, rfl⟩, .inl HJ2.out⟩
    · obtain rfl : q = 16 := by omega
      have e := HEN.out k hk (.inl (by omega))
      subst e
      go_wp2_with fail
      rw [Exit.noGoto_normal]
      go_end0
      exact ⟨⟨_, rfl⟩, .inl HJ1.out⟩
end Go.Proofs.Ytlddjcilbpcciaa
end
section
/-
  THE LOG, in plain Lean: a group that is put.
-/
namespace Go.Proofs.Ytlddjcilbpcciaa
open Go.ChangeShapes Go.WideShapes Go.ChangeAt Go.RowKit Agg Pg Dv Lg
/-- a group's writes -/
def wrsG (at0 n : Nat) (B : List UInt8) (m k : Nat) : List (Int × List Sec) := (List.range k).map fun i : Nat => ((2 : Int) + (at0 : Int) + (i : Int), layL (partL B m i) (n + i))
theorem wrsG_length (at0 n : Nat) (B : List UInt8) (m k : Nat) : (wrsG at0 n B m k).length = k := by simp [wrsG]
theorem wrsG_succ (at0 n : Nat) (B : List UInt8) (m k : Nat) : wrsG at0 n B m (k + 1) = wrsG at0 n B m k ++ [((2 : Int) + (at0 : Int) + (k : Int), layL (partL B m k) (n + k))] := by
  unfold wrsG; rw [List.range_succ, List.map_append]; rfl
theorem wrsG_get (at0 n : Nat) (B : List UInt8) (m k i : Nat) (h : i < (wrsG at0 n B m k).length) : (wrsG at0 n B m k)[i] = ((2 : Int) + (at0 : Int) + (i : Int), layL (partL B m i) (n + i)) := by simp [wrsG]
theorem wrsG_drop (at0 n : Nat) (B : List UInt8) (m i : Nat) (h : i < m) : (wrsG at0 n B m m).drop i = ((2 : Int) + (at0 : Int) + (i : Int), layL (partL B m i) (n + i)) :: (wrsG at0 n B m m).drop (i + 1) := by
  rw [List.drop_eq_getElem_cons (by rw [wrsG_length]; exact h), wrsG_get]
theorem wrsG_bok (at0 n : Nat) (B : List UInt8) (m k : Nat) : ∀ x ∈ wrsG at0 n B m k, BOk x.2 := by
  intro x hx
  obtain ⟨i, _, rfl⟩ := List.mem_map.1 hx
  exact layL_bok _ _
theorem wrsG_there (at0 n : Nat) (B : List UInt8) (m k np : Nat) (h : 2 + at0 + k ≤ np) : ∀ x ∈ wrsG at0 n B m k, thereB np x.1 = true := by
  intro x hx
  obtain ⟨i, hi, rfl⟩ := List.mem_map.1 hx
  have := List.mem_range.1 hi
  unfold thereB
  simp only [Bool.and_eq_true, decide_eq_true_eq]
  omega
/-- how many pages -/
def mG (B : List UInt8) : Nat := (needL B.length).toNat
theorem mG_eq (B : List UInt8) : (mG B : Int) = needL B.length := by
  unfold mG needL; split <;> omega
theorem mG_le (B : List UInt8) : mG B ≤ B.length := by
  unfold mG needL; split <;> omega
/-- why a group is not put; 0: it is -/
def whyG (at0 : Int) (n : Nat) (B : List UInt8) : Int :=
  if B.length = 0 ∨ at0 < 0 ∨ 16 < at0 ∨ n < 1 ∨ 4611686018427387904 < n then 2
  else if 16 - at0 < needL B.length then 3
  else if 4611686018427387904 - (n : Int) < needL B.length - 1 then 8 else 0
/-- what is put: the error, the device -/
def putG (d : Dev) (at0 : Int) (n : Nat) (B : List UInt8) : Int × Dev :=
  if askL d = 10 then goesP d (flushP d)
  else if askL d ≠ 0 then (260, dev0)
  else if whyG at0 n B ≠ 0 then (whyG at0 n B, dev0)
  else if (putsP d (wrsG at0.toNat n B (mG B) (mG B))).1 ≠ 0 then putsP d (wrsG at0.toNat n B (mG B) (mG B))
  else goesP (putsP d (wrsG at0.toNat n B (mG B) (mG B))).2 (flushP (putsP d (wrsG at0.toNat n B (mG B) (mG B))).2)
theorem whyG_zero {at0 : Int} {n : Nat} {B : List UInt8} (h : whyG at0 n B = 0) : B.length ≠ 0 ∧ 0 ≤ at0 ∧ at0 ≤ 16 ∧ 1 ≤ n ∧ n ≤ 4611686018427387904 ∧ at0 + mG B ≤ 16 ∧ n + mG B ≤ 4611686018427387905 := by
  have hm := mG_eq B
  unfold whyG at h
  split at h
  · omega
  · split at h
    · omega
    · split at h
      · omega
      · rename_i h1 h2 h3
        refine ⟨by omega, by omega, by omega, by omega, by omega, by omega, by omega⟩
theorem askL_cases (d : Dev) : askL d = 0 ∨ askL d = 10 ∨ askL d = 260 := by
  unfold askL
  split
  · split
    · exact .inr (.inl rfl)
    · exact .inl rfl
  · exact .inr (.inr rfl)
def whyB (d : Dev) (at0 : Int) (n : Nat) (B : List UInt8) : Int := if askL d = 10 then 10 else if askL d ≠ 0 then 260 else whyG at0 n B
theorem whyB_cases (d : Dev) (at0 : Int) (n : Nat) (B : List UInt8) : (whyB d at0 n B = askL d ∧ askL d ≠ 0) ∨ (askL d = 0 ∧ whyB d at0 n B = whyG at0 n B) := by
  unfold whyB
  rcases askL_cases d with h | h | h
  · exact .inr ⟨h, by rw [if_neg (by omega), if_neg (by omega)]⟩
  · exact .inl ⟨by rw [if_pos h, h], by omega⟩
  · exact .inl ⟨by rw [if_neg (by omega), if_pos (by omega), h], by omega⟩
/-- a group is put, of which all was asked -/
def doG (d : Dev) (a n : Nat) (B : List UInt8) : Int × Dev :=
  if (putsP d (wrsG a n B (mG B) (mG B))).1 ≠ 0 then putsP d (wrsG a n B (mG B) (mG B))
  else goesP (putsP d (wrsG a n B (mG B) (mG B))).2 (flushP (putsP d (wrsG a n B (mG B) (mG B))).2)
theorem putG_why (d : Dev) (at0 : Int) (n : Nat) (B : List UInt8) : (whyB d at0 n B = 10 → putG d at0 n B = goesP d (flushP d)) ∧ (whyB d at0 n B ≠ 10 → whyB d at0 n B ≠ 0 → putG d at0 n B = (whyB d at0 n B, dev0)) ∧ (whyB d at0 n B = 0 → askL d = 0 ∧ whyG at0 n B = 0 ∧ putG d at0 n B = doG d at0.toNat n B) := by
  have hw : whyG at0 n B = 0 ∨ whyG at0 n B = 2 ∨ whyG at0 n B = 3 ∨ whyG at0 n B = 8 := by
    unfold whyG
    split
    · exact .inr (.inl rfl)
    · split
      · exact .inr (.inr (.inl rfl))
      · split
        · exact .inr (.inr (.inr rfl))
        · exact .inl rfl
  unfold whyB putG
  rcases askL_cases d with h | h | h
  · rw [h, if_neg (by decide), if_neg (by decide), if_neg (by decide), if_neg (by decide)]
    refine ⟨fun h1 => by omega, fun _ h1 => by rw [if_pos h1], fun h1 => ⟨rfl, h1, by rw [if_neg (by omega)]; rfl⟩⟩
  · rw [h, if_pos rfl, if_pos rfl]
    exact ⟨fun _ => rfl, fun h1 => absurd rfl h1, fun h1 => absurd h1 (by decide)⟩
  · rw [h, if_neg (by decide), if_pos (by decide), if_neg (by decide), if_pos (by decide)]
    exact ⟨fun h1 => absurd h1 (by decide), fun _ _ => rfl, fun h1 => absurd h1 (by decide)⟩
theorem putP_len1 (d : Dev) (k : Int) (b : List Sec) : (putP d k b).2.cache.length ≤ d.cache.length + 1 := by
  unfold putP
  split
  · exact Nat.le_succ _
  · split
    · exact Nat.le_succ _
    · simp
theorem flushP_len (d : Dev) : (flushP d).2.cache.length ≤ d.cache.length := by
  unfold flushP burnD
  split <;> simp
theorem putsP_len {l : List (Int × List Sec)} : ∀ {d : Dev} {n : Nat}, d.cache.length + l.length ≤ n → (putsP d l).2.cache.length ≤ n := by
  induction l with
  | nil => intro d n h; simpa [putsP] using h
  | cons x l ih =>
    intro d n h
    rw [List.length_cons] at h
    have h1 : (goesP d (putP d x.1 x.2)).2.cache.length ≤ d.cache.length + 1 := goesP_len (by omega) (by
      unfold putP
      split
      · exact Nat.le_succ _
      · split
        · exact Nat.le_succ _
        · simp)
    rw [putsP]
    split
    · omega
    · exact ih (by omega)
end Go.Proofs.Ytlddjcilbpcciaa
end
