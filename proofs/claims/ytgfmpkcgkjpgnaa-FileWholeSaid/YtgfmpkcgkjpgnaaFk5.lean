/-
  THE WALK OF LAYER 20's STATEMENT FileWhole.
-/
import Derived.Test.YtgfmpkcgkjpgnaaFj4
import Derived.Test.YtgfmpkcgkjpgnaaFiY
import Derived.Test.YtgfmpkcgkjpgnaaFk3
import Derived.Test.YtgfmpkcgkjpgnaaFk4
namespace Go.Proofs.Ytgfmpkcgkjpgnaa
open Go.ChangeShapes Go.WideShapes Go.ChangeAt Go.RowKit Agg Pg Dv Fi
attribute [local go_sem] Oper.semAt_some

/-- a mask as it is read -/
def maskZ (ms : List Int) (i : Nat) : Int := match ms[i]? with
  | some m => wrap64 ((IntKind.u64.wrap m).tmod 16)
  | none => 0
def ownM (ms : List Int) (k : Nat) : List Int := (List.range k).map (maskZ ms)
theorem ownM_succ (ms : List Int) (k : Nat) : ownM ms (k + 1) = ownM ms k ++ [maskZ ms k] := by simp [ownM, List.range_succ]
theorem ownM_length (ms : List Int) (k : Nat) : (ownM ms k).length = k := by simp [ownM]
theorem mask_in (z : Int) : 0 ≤ wrap64 ((IntKind.u64.wrap z).tmod 16) ∧ wrap64 ((IntKind.u64.wrap z).tmod 16) < 16 := by
  have e : IntKind.u64.wrap z = z % 18446744073709551616 := by simp [IntKind.wrap, IntKind.bits, IntKind.signed]
  have h1 : (z % 18446744073709551616).tmod 16 = (z % 18446744073709551616) % 16 := Int.tmod_eq_emod_of_nonneg (by omega)
  rw [e, h1]
  unfold wrap64
  omega
theorem ownM_in (ms : List Int) (k : Nat) : ∀ m ∈ ownM ms k, 0 ≤ m ∧ m < 16 := by
  intro m hm
  obtain ⟨i, _, rfl⟩ := List.mem_map.1 hm
  unfold maskZ
  split
  · exact mask_in _
  · omega
def allM (v : Int) (ms : List Int) (k : Nat) : Bool := (ownM ms k).all fun m => m == v
theorem allM_succ (v : Int) (ms : List Int) (k : Nat) : allM v ms (k + 1) = (allM v ms k && (maskZ ms k == v)) := by simp [allM, ownM_succ]
theorem allM_true {v : Int} {ms : List Int} {k : Nat} (h : allM v ms k = true) : ∀ m ∈ ownM ms k, m = v := by
  unfold allM at h
  rw [List.all_eq_true] at h
  exact fun m hm => by simpa using h m hm
theorem allM_false {v : Int} {ms : List Int} {k : Nat} (h : allM v ms k = false) : ¬ ∀ m ∈ ownM ms k, m = v := by
  intro hall
  have : allM v ms k = true := by
    unfold allM
    rw [List.all_eq_true]
    exact fun m hm => by simp [hall m hm]
  rw [h] at this; cases this
set_option maxHeartbeats 8000000 in
set_option maxRecDepth 100000 in
theorem whole_walk (x : DiskD) (fv hv cv : Value) (hx : DiskOk x) (fa : List Int) (fk : Int) (fb : List UInt8) (va vb : Value) (ms : List Int) (mv : Value) (w : World) (hf : Files w fv x.files) (hh : PgsD w hv x.held) (ha : Ints w va fa) (hb : Bytes w vb fb) (hmv : Ints w mv ms) :
    Calls Try.prog 8 #[.agg (diskC x fv hv cv).toArray, .agg #[va, .int .i64 fk, vb], mv] w fun e w' => e = .returned (.bool true) ∧ Below w.heap.size w w' := by
  obtain ⟨ax, ac, rfl, _, _⟩ := ha.shape
  obtain ⟨bx, bc, rfl, _, _⟩ := hb.shape
  obtain ⟨mx, mc, rfl, hm1, hm2⟩ := hmv.shape
  unfold maxLen at hm2
  have HMV := Lib.hid (hmv)
  have hml : (ms.length : Int) ≤ 9223372036854775807 := by omega
  have HPW := Lib.hid (fun W (hW : Below w.heap.size w W) => powered_any x _ _ cv hx W (hf.keep hW) (SlR.keep hh hW))
  have HOW := Lib.hid (fun W (hW : Below w.heap.size w W) => fown_any fa fk fb _ _ W (SlR.keep ha hW) (SlR.keep hb hW))
  have hdg := diskD_good (powX_ok hx)
  have hdc : (diskD (powX x)).cache = [] := rfl
  have hpf := powB_facts (x := x)
  obtain ⟨q, hq⟩ : ∃ q, powB x = q := ⟨_, rfl⟩
  obtain ⟨D, hD⟩ : ∃ D, diskD (powX x) = D := ⟨_, rfl⟩
  obtain ⟨A2, hA2⟩ : ∃ l, fa.take 20 = l := ⟨_, rfl⟩
  obtain ⟨B2, hB2⟩ : ∃ l, fb.take 2000 = l := ⟨_, rfl⟩
  have hla : A2.length ≤ 20 := by rw [← hA2, List.length_take]; omega
  have hlb : B2.length ≤ 2000 := by rw [← hB2, List.length_take]; omega
  rw [hq, hD] at HPW
  rw [hA2, hB2] at HOW
  rw [hD] at hdg hdc
  rw [hq, hD] at hpf
  obtain ⟨G, hG⟩ : ∃ G, grB D.pages = G := ⟨_, rfl⟩
  rw [hG] at HPW hpf
  have HDG := Lib.hid hdg
  have HDC := Lib.hid hdc
  have HPF := Lib.hid hpf
  have HLA := Lib.hid hla
  have HLB := Lib.hid hlb
  have hlc : ∀ (d : Dev), d.cache = [] → d.cache.length ≤ 10000 := fun d h => by rw [h]; decide
  have hc0 := hlc D hdc
  have HNO : Hid (mayB A2 fk B2.length D.pages.length = false → q = true → fPut D A2 fk (G + 1) B2 = (2, dev0)) := Lib.hid (fun hm hq => fPut_no (hpf hq).1 hm)
  have HYES : Hid (mayB A2 fk B2.length D.pages.length = true → q = true → ∃ N, fPut D A2 fk (G + 1) B2 = (0, N) ∧ DGood N ∧ N.cache.length ≤ 40 ∧ ∀ M : List Int, M.length = A2.length → (∀ m ∈ M, 0 ≤ m ∧ m < 16) → ∃ C, WholeF D A2 fk B2 M N C) := Lib.hid (fun hm hq => by
    have hb := back_facts (n := G + 1) (hpf hq).1 hdg hdc hla (by omega) (by have := (hpf hq).2; omega) hm
    exact ⟨_, hb.put, hb.good, hb.len, fun M h1 h2 => ⟨_, whole_facts (hpf hq).1 hdg hdc hla (by rw [hG]) (by have := (hpf hq).2; omega) hm M h1 h2⟩⟩)
  have HPT := Lib.hid (fun (h : G < 4611686018427386904) W (dv av bv : Value) (hd : DevR W dv D) (ha : Ints W av A2) (hb : Bytes W bv B2) => fPut_any D A2 fk (G + 1) B2 dv av bv W hdg hc0 hd ha hb (by omega) (by omega) (by omega))
  have HGT := Lib.hid (fun (d : Dev) (hg : DGood d) (hc : d.cache.length ≤ 40) W (dv av : Value) (hd : DevR W dv d) (ha : Ints W av A2) => Get_any d A2 fk (B2.length : Int) dv av W hg (by omega) hd ha (by omega) (by omega) (by omega))
  clear hf hh ha hb hmv hx hA2 hB2 hD hq hG hdg hdc hpf hc0 hlc hla hlb hm1 hm2
  have HB := Lib.hid (Below.refl w.heap.size w)
  go_enter Try.func8, Try.ntmps8
  go_upto_region 1 with (fail)
  refine Agg.wp_at fun w1 hw1 => ?_
  have hb : Below w.heap.size w w1 := by rw [hw1.out]; repeat (first | exact Below.refl _ _ | refine Agg.bel_drew ?_ | refine Agg.bel_alloc ?_ _)
  replace HB := Lib.hid (HB.out.trans (hb.mono HB.out.size))
  clear hb
  have H2 : Hid (Blk w1 w.heap.size 38 (diskC x fv hv cv)) := by show Blk _ _ _ _; rw [hw1.out]; exact (Blk.new w 38 (diskC x fv hv cv).toArray).al _
  have H3 : Hid (Blk w1 (w.heap.size + 1) 41 [.slice ax fa.length ac, .int .i64 fk, .slice bx fb.length bc]) := by show Blk _ _ _ _; rw [hw1.out]; exact Blk.newAt (w.alloc _) 41 #[.slice ax fa.length ac, .int .i64 fk, .slice bx fb.length bc] _ (by simp)
  clear hw1
  have HL6 : Hid ((diskC x fv hv cv).length = 6) := Lib.hid rfl
  obtain ⟨dc, hdc⟩ : ∃ c, diskC x fv hv cv = c := ⟨_, rfl⟩
  rw [hdc] at H2 HL6 HPW
  clear hdc
  have HMB := Lib.hid (SlR.keep HMV.out HB.out)
  clear HMV
  go_wp2_with fail
  refine (wakes_any w1).mono ?_
  rintro e w2 ⟨rfl, hb⟩
  replace HB := Lib.hid (HB.out.trans (hb.mono HB.out.size))
  replace H2 := Lib.hid (H2.out.keep hb)
  replace H3 := Lib.hid (H3.out.keep hb)
  replace HMB := Lib.hid (HMB.out.keep hb)
  clear hb
  have h2 := H2.out
  go_wp2_with (refine Agg.gLoadB 6 h2 HL6.out rfl rfl rfl (by decide +kernel) ?_; simp only [Act.put, List.setIfInBounds_toArray, List.set_cons_succ, List.set_cons_zero])
  clear h2
  refine (HPW.out w2 HB.out).mono ?_
  rintro e w3 ⟨u1, rfl, hu1, hb⟩
  replace HB := Lib.hid (HB.out.trans (hb.mono HB.out.size))
  replace H2 := Lib.hid (H2.out.keep hb)
  replace H3 := Lib.hid (H3.out.keep hb)
  replace HMB := Lib.hid (HMB.out.keep hb)
  clear hb
  have HD := Lib.hid hu1.read
  obtain ⟨px, pc, qx, qc, rfl⟩ := HD.out.shape
  clear hu1 HPW H2
  go_upto_region 4 with (fail)
  refine Agg.wp_at fun w4 hw4 => ?_
  have hb : Below w3.heap.size w3 w4 := by rw [hw4.out]; repeat (first | exact Below.refl _ _ | refine Agg.bel_drew ?_ | refine Agg.bel_alloc ?_ _)
  replace HB := Lib.hid (HB.out.trans (hb.mono HB.out.size))
  replace H3 := Lib.hid (H3.out.keep hb)
  replace HD := Lib.hid (HD.out.keep hb)
  replace HMB := Lib.hid (HMB.out.keep hb)
  clear hb
  have H5 : Hid (Blk w4 w3.heap.size 46 [.slice px D.pages.length pc, .slice qx D.cache.length qc, .int .i64 D.fuse, .bool D.off]) := by show Blk _ _ _ _; rw [hw4.out]; exact Blk.new w3 46 #[.slice px D.pages.length pc, .slice qx D.cache.length qc, .int .i64 D.fuse, .bool D.off]
  clear hw4
  generalize w3.heap.size = g5 at *
  have h3 := H3.out
  go_wp2_with (refine Agg.gLoadB 3 h3 rfl rfl rfl rfl (by decide +kernel) ?_; simp only [Act.put, List.setIfInBounds_toArray, List.set_cons_succ, List.set_cons_zero])
  clear h3
  refine (HOW.out w4 HB.out).mono ?_
  rintro e w5 ⟨u2, rfl, hu2, hb⟩
  replace HB := Lib.hid (HB.out.trans (hb.mono HB.out.size))
  replace H3 := Lib.hid (H3.out.keep hb)
  replace HD := Lib.hid (HD.out.keep hb)
  replace H5 := Lib.hid (H5.out.keep hb)
  replace HMB := Lib.hid (HMB.out.keep hb)
  clear hb
  obtain ⟨ua, ub, rfl, hua, hub⟩ := hu2
  have HUA := Lib.hid (ownSl hua)
  have HUB := Lib.hid (ownSl hub)
  obtain ⟨xa, ca, rfl, _, _⟩ := (ownSl hua).shape
  obtain ⟨xb, cb, rfl, _, _⟩ := (ownSl hub).shape
  clear hua hub H3 HOW
  go_upto_region 5 with (fail)
  refine Agg.wp_at fun w6 hw6 => ?_
  have hb : Below w5.heap.size w5 w6 := by rw [hw6.out]; repeat (first | exact Below.refl _ _ | refine Agg.bel_drew ?_ | refine Agg.bel_alloc ?_ _)
  replace HB := Lib.hid (HB.out.trans (hb.mono HB.out.size))
  replace HD := Lib.hid (HD.out.keep hb)
  replace H5 := Lib.hid (H5.out.keep hb)
  replace HUA := Lib.hid (HUA.out.keep hb)
  replace HUB := Lib.hid (HUB.out.keep hb)
  replace HMB := Lib.hid (HMB.out.keep hb)
  clear hb
  have H8 : Hid (Blk w6 w5.heap.size 41 [.slice xa A2.length ca, .int .i64 fk, .slice xb B2.length cb]) := by show Blk _ _ _ _; rw [hw6.out]; exact Blk.new w5 41 #[.slice xa A2.length ca, .int .i64 fk, .slice xb B2.length cb]
  clear hw6
  generalize w5.heap.size = g8 at *
  cases q
  · go_wp2_with fail
    go_ret
    exact ⟨rfl, HB.out⟩
  · skip
    have hg63 : G < 4611686018427386904 := (HPF.out rfl).2
    have hgt0 := HGT.out D HDG.out (by rw [HDC.out]; decide)
    obtain ⟨g, hg⟩ : ∃ g, fGet D A2 fk B2.length = g := ⟨_, rfl⟩
    rw [hg] at hgt0
    have HG0 := Lib.hid hgt0
    have HGE := Lib.hid hg
    clear hgt0 hg
    have xH8_0 := H8.out.cell 0
    have xH8_1 := H8.out.cell 1
    have xH8_2 := H8.out.cell 2
    have lH8 := H8.out.lt
    simp only [List.getElem?_cons_zero, List.getElem?_cons_succ] at xH8_0 xH8_1 xH8_2
    have h5 := H5.out
    go_wp2_with (refine Agg.gLoadB 4 h5 rfl rfl rfl rfl (by decide +kernel) ?_; simp only [Act.put, List.setIfInBounds_toArray, List.set_cons_succ, List.set_cons_zero])
    clear xH8_0 xH8_1 xH8_2 lH8
    clear h5
    refine (HG0.out w6 _ _ HD.out HUA.out).mono ?_
    rintro e w7 ⟨u9, rfl, hu9, hb⟩
    replace HB := Lib.hid (HB.out.trans (hb.mono HB.out.size))
    replace HD := Lib.hid (HD.out.keep hb)
    replace H5 := Lib.hid (H5.out.keep hb)
    replace HUA := Lib.hid (HUA.out.keep hb)
    replace HUB := Lib.hid (HUB.out.keep hb)
    replace H8 := Lib.hid (H8.out.keep hb)
    replace HMB := Lib.hid (HMB.out.keep hb)
    clear hb
    obtain ⟨ux9, uc9, rfl, _, _⟩ := (ownSl hu9).shape
    have HU9 := Lib.hid (ownSl hu9)
    clear hu9 HG0
    go_upto_region 8 with (fail)
    have xH8_0 := H8.out.cell 0
    have xH8_1 := H8.out.cell 1
    have xH8_2 := H8.out.cell 2
    have lH8 := H8.out.lt
    simp only [List.getElem?_cons_zero, List.getElem?_cons_succ] at xH8_0 xH8_1 xH8_2
    have h5 := H5.out
    go_wp2_with (refine Agg.gLoadB 4 h5 rfl rfl rfl rfl (by decide +kernel) ?_; simp only [Act.put, List.setIfInBounds_toArray, List.set_cons_succ, List.set_cons_zero])
    clear xH8_0 xH8_1 xH8_2 lH8
    clear h5
    refine (HPT.out hg63 w7 _ _ _ HD.out HUA.out HUB.out).mono ?_
    rintro e w8 ⟨u3, rfl, hu3, hb⟩
    replace HB := Lib.hid (HB.out.trans (hb.mono HB.out.size))
    replace HD := Lib.hid (HD.out.keep hb)
    replace H5 := Lib.hid (H5.out.keep hb)
    replace HUA := Lib.hid (HUA.out.keep hb)
    replace HUB := Lib.hid (HUB.out.keep hb)
    replace H8 := Lib.hid (H8.out.keep hb)
    replace HMB := Lib.hid (HMB.out.keep hb)
    replace HU9 := Lib.hid (HU9.out.keep hb)
    clear hb
    clear HPT
    obtain ⟨m, hm⟩ : ∃ m, mayB A2 fk B2.length D.pages.length = m := ⟨_, rfl⟩
    cases m
    · have hno := HNO.out hm trivial
      rw [hno] at hu3 ⊢
      obtain ⟨py, pyc, qy, qyc, rfl⟩ := hu3.shape
      clear hu3 hno HNO HYES HGT HDC hm
      go_upto_region 9 with (fail)
      refine Agg.wp_at fun w9 hw9 => ?_
      have hb : Below w8.heap.size w8 w9 := by rw [hw9.out]; repeat (first | exact Below.refl _ _ | refine Agg.bel_drew ?_ | refine Agg.bel_alloc ?_ _)
      replace HB := Lib.hid (HB.out.trans (hb.mono HB.out.size))
      replace HD := Lib.hid (HD.out.keep hb)
      replace H5 := Lib.hid (H5.out.keep hb)
      replace HUA := Lib.hid (HUA.out.keep hb)
      replace HUB := Lib.hid (HUB.out.keep hb)
      replace H8 := Lib.hid (H8.out.keep hb)
      replace HMB := Lib.hid (HMB.out.keep hb)
      replace HU9 := Lib.hid (HU9.out.keep hb)
      clear hb
      clear hw9
      go_wp2_with fail
      go_ret
      exact ⟨rfl, HB.out⟩
    · skip
      obtain ⟨N, hput, hng, hnl, hwf⟩ := HYES.out hm trivial
      rw [hput] at hu3 ⊢
      have HN := Lib.hid hu3
      obtain ⟨py, pyc, qy, qyc, rfl⟩ := hu3.shape
      obtain ⟨M, hM⟩ : ∃ M, ownM ms A2.length = M := ⟨_, rfl⟩
      obtain ⟨C, hwc⟩ := hwf M (by rw [← hM]; exact ownM_length _ _) (by rw [← hM]; exact ownM_in _ _)
      have HME := Lib.hid hM
      have HWF := Lib.hid hwc
      have HNG := Lib.hid hng
      have HNL := Lib.hid hnl
      clear hu3 hput hng hnl hwf hM hwc HNO HYES hm
      go_upto_region 9 with (fail)
      refine Agg.wp_at fun w10 hw10 => ?_
      have hb : Below w8.heap.size w8 w10 := by rw [hw10.out]; repeat (first | exact Below.refl _ _ | refine Agg.bel_drew ?_ | refine Agg.bel_alloc ?_ _)
      replace HB := Lib.hid (HB.out.trans (hb.mono HB.out.size))
      replace HD := Lib.hid (HD.out.keep hb)
      replace H5 := Lib.hid (H5.out.keep hb)
      replace HUA := Lib.hid (HUA.out.keep hb)
      replace HUB := Lib.hid (HUB.out.keep hb)
      replace H8 := Lib.hid (H8.out.keep hb)
      replace HMB := Lib.hid (HMB.out.keep hb)
      replace HU9 := Lib.hid (HU9.out.keep hb)
      replace HN := Lib.hid (HN.out.keep hb)
      clear hb
      have H13 : Hid (Blk w10 w8.heap.size 46 [.slice py N.pages.length pyc, .slice qy N.cache.length qyc, .int .i64 N.fuse, .bool N.off]) := by show Blk _ _ _ _; rw [hw10.out]; exact Blk.new w8 46 #[.slice py N.pages.length pyc, .slice qy N.cache.length qyc, .int .i64 N.fuse, .bool N.off]
      clear hw10
      generalize w8.heap.size = g13 at *
      clear HD H5
      have hla := HLA.out
      have xH8_0 := H8.out.cell 0
      have xH8_1 := H8.out.cell 1
      have xH8_2 := H8.out.cell 2
      have lH8 := H8.out.lt
      simp only [List.getElem?_cons_zero, List.getElem?_cons_succ] at xH8_0 xH8_1 xH8_2
      go_wp2_with fail
      clear xH8_0 xH8_1 xH8_2 lH8
      obtain ⟨wZ, hwZ⟩ : ∃ x, x = w10 := ⟨_, rfl⟩
      subst hwZ
      have HBZ := HB
      have HUAZ := HUA
      have HUBZ := HUB
      have H8Z := H8
      have HMBZ := HMB
      have HU9Z := HU9
      have HNZ := HN
      have H13Z := H13
      clear HUA HUB H8 HMB HU9 HN H13 HB
      go_loopw [66, 15, 16, 17] (fun ix ow al no wr => ∃ k : Nat, k ≤ A2.length ∧ ix = .int .i64 k ∧ al = .bool (allM 15 ms k) ∧ no = .bool (allM 0 ms k) ∧ wr.ownsRow wZ.heap.size 3 1 ow k (iC (ownM ms k)) ∧ Below wZ.heap.size wZ wr) (fun ix _ _ _ _ => A2.length - (intOf ix).toNat)
      case atStart => exact ⟨0, by omega, rfl, rfl, rfl, World.ownsRow_nil _ _ _ _, Below.refl _ _⟩
      case round =>
        obtain ⟨k, hk, rfl, rfl, rfl, ho, hb⟩ := hrel
        have HB := Lib.hid (HBZ.out.trans (hb.mono HBZ.out.size))
        have HFW : Hid (From wZ wr) := Lib.hid hb
        have HO := Lib.hid ho
        obtain ⟨ux, uc, rfl, _, _⟩ := (ownSl ho).shape
        have HMB := Lib.hid (SlR.keep HMBZ.out hb)
        obtain ⟨al, hal⟩ : ∃ al, allM 15 ms k = al := ⟨_, rfl⟩
        obtain ⟨no, hno⟩ : ∃ al, allM 0 ms k = al := ⟨_, rfl⟩
        have HAL := Lib.hid hal
        have HNL2 := Lib.hid hno
        rw [hal, hno]
        clear ho hb hal hno
        obtain ⟨wA, hwA⟩ : ∃ x, x = wr := ⟨_, rfl⟩
        subst hwA
        by_cases hlt : k < A2.length
        · obtain ⟨mz, hmz⟩ : ∃ m, maskZ ms k = m := ⟨_, rfl⟩
          have HMZ := Lib.hid hmz
          have hbA : Below wA.heap.size wA (wA.alloc (.cells #[.int .i64 mz] 3)) := (Below.refl _ _).alloc (Nat.le_refl _) _
          by_cases hl : k < ms.length
          · obtain ⟨gm, om, cm, hve, _, _, _, _⟩ := SlR.pos HMB.out (by decide) (by omega)
            simp only [Value.slice.injEq, true_and] at hve
            obtain ⟨rfl, rfl⟩ := hve
            have hcj := ints_at HMB.out hl
            obtain ⟨z, hz⟩ : ∃ z, ms[k] = z := ⟨_, rfl⟩
            have hf : wrap64 ((IntKind.u64.wrap z).tmod 16) = mz := by
              rw [← hmz, ← hz]; unfold maskZ; rw [List.getElem?_eq_getElem hl]
            rw [hz] at hcj
            clear hz hmz
            go_upto_region 19 with (fail)
            rw [hf]
            clear hf hcj
            have hB4 := HFW.out.trans (hbA.mono HFW.out.size)
            have hC3 := own_keep HO.out hbA
            have hsl : SlR (wA.alloc (.cells #[.int .i64 mz] 3)) (.slice (some ⟨wA.heap.size, 0, none⟩) 1 1) 1 1 [.int .i64 mz] := NewSl.sl (b0 := 0) (e := 3) ⟨_, rfl, Nat.zero_le _, Blk.new wA 3 #[.int .i64 mz]⟩ rfl (by unfold maxLen; decide)
            have hlw : wZ.heap.size ≤ (wA.alloc (.cells #[.int .i64 mz] 3)).heap.size := Nat.le_trans HFW.out.size hbA.size
            have hmx : k + 1 ≤ maxLen := by unfold maxLen; omega
            have hby : (k + 1) * 8 ≤ 140737488355328 := by omega
            have hone : ∀ u ∈ [Value.int .i64 mz], u.oneCell' = true := by simp [Value.oneCell']
            go_upto_region 20 with (refine Agg.append2 tiInt (.tmp 80) (.tmp 82) rfl rfl wZ.heap.size (v := .slice ux k uc) rfl hC3 rfl hsl hone hmx hby hlw (fun v2 w4 hC4 hg4 hwh => ?_); simp only [Act.put, List.setIfInBounds_toArray, List.set_cons_succ, List.set_cons_zero])
            have hC5 : w4.ownsRow wZ.heap.size 3 1 v2 (k + 1) (iC (ownM ms (k + 1))) := by
              have e : iC (ownM ms (k + 1)) = iC (ownM ms k) ++ [.int .i64 mz] := by rw [ownM_succ, HMZ.out]; unfold iC; rw [List.map_append]; rfl
              rw [e]; exact hC4
            have hB5 := hB4.trans (grown_below hg4 hlw (own_block hC3))
            have HAA : Hid (allM 15 ms (k + 1) = (al && (mz == (15 : Int)))) := Lib.hid (by rw [allM_succ, HAL.out, HMZ.out])
            have HNN : Hid (allM 0 ms (k + 1) = (no && (mz == (0 : Int)))) := Lib.hid (by rw [allM_succ, HNL2.out, HMZ.out])
            have HB := Lib.hid (HBZ.out.trans (hB5.mono HBZ.out.size))
            have HO5 := Lib.hid hC5
            have HFW5 : Hid (From wZ w4) := Lib.hid hB5
            obtain ⟨v2x, v2c, rfl, _, _⟩ := (ownSl hC5).shape
            clear hC5 hB5 hC4 hg4 hwh hC3 hsl hlw hmx hby hone hbA hB4 HO HMB HFW HAL HNL2
            cases al <;> cases no
            · skip
              refine Agg.listR 10 (by kernel_rfl) ?_
              simp only [List.take_succ_cons, List.take_zero, List.drop_succ_cons, List.drop_zero]
              refine Agg.chMove rfl rfl rfl rfl ?_
              refine Agg.chMove rfl rfl rfl rfl ?_
              refine Agg.chSkip rfl rfl ?_
              refine Agg.chSkip rfl rfl ?_
              refine Agg.chPick rfl rfl rfl rfl rfl ?_
              refine Agg.chMove rfl rfl rfl rfl ?_
              refine Agg.chMove rfl rfl rfl rfl ?_
              refine Agg.chSkip rfl rfl ?_
              refine Agg.chSkip rfl rfl ?_
              refine Agg.chPick rfl rfl rfl rfl rfl ?_
              refine Agg.chEnd ?_
              intro vs w91 hb _
              simp only [List.reverse, List.reverseAux, Agg.fill, List.set_cons_succ, List.set_cons_zero]
              replace HB := Lib.hid (HB.out.trans (hb.mono HB.out.size))
              replace HO5 := Lib.hid (HO5.out.keep hb)
              replace HFW5 := Lib.hid (HFW5.out.keep hb)
              clear hb
              go_wp2_with fail
              exact ⟨⟨k + 1, by omega, by go_num, by rw [HAA.out]; rfl, by rw [HNN.out]; rfl, HO5.out, HFW5.out⟩, by simp [intOf]; omega⟩
            · skip
              refine Agg.listR 10 (by kernel_rfl) ?_
              simp only [List.take_succ_cons, List.take_zero, List.drop_succ_cons, List.drop_zero]
              refine Agg.chMove rfl rfl rfl rfl ?_
              refine Agg.chMove rfl rfl rfl rfl ?_
              refine Agg.chSkip rfl rfl ?_
              refine Agg.chSkip rfl rfl ?_
              refine Agg.chPick rfl rfl rfl rfl rfl ?_
              refine Agg.chMove rfl rfl rfl rfl ?_
              refine Agg.chMove rfl rfl rfl rfl ?_
              refine Agg.chMove rfl rfl rfl rfl ?_
              refine Agg.chEq (mz == 0) rfl rfl rfl rfl rfl rfl ?_
              refine Agg.chPick rfl rfl rfl rfl rfl ?_
              refine Agg.chEnd ?_
              intro vs w92 hb _
              simp only [List.reverse, List.reverseAux, Agg.fill, List.set_cons_succ, List.set_cons_zero]
              replace HB := Lib.hid (HB.out.trans (hb.mono HB.out.size))
              replace HO5 := Lib.hid (HO5.out.keep hb)
              replace HFW5 := Lib.hid (HFW5.out.keep hb)
              clear hb
              go_wp2_with fail
              exact ⟨⟨k + 1, by omega, by go_num, by rw [HAA.out]; rfl, by rw [HNN.out]; rfl, HO5.out, HFW5.out⟩, by simp [intOf]; omega⟩
            · skip
              refine Agg.listR 10 (by kernel_rfl) ?_
              simp only [List.take_succ_cons, List.take_zero, List.drop_succ_cons, List.drop_zero]
              refine Agg.chMove rfl rfl rfl rfl ?_
              refine Agg.chMove rfl rfl rfl rfl ?_
              refine Agg.chMove rfl rfl rfl rfl ?_
              refine Agg.chEq (mz == 15) rfl rfl rfl rfl rfl rfl ?_
              refine Agg.chPick rfl rfl rfl rfl rfl ?_
              refine Agg.chMove rfl rfl rfl rfl ?_
              refine Agg.chMove rfl rfl rfl rfl ?_
              refine Agg.chSkip rfl rfl ?_
              refine Agg.chSkip rfl rfl ?_
              refine Agg.chPick rfl rfl rfl rfl rfl ?_
              refine Agg.chEnd ?_
              intro vs w93 hb _
              simp only [List.reverse, List.reverseAux, Agg.fill, List.set_cons_succ, List.set_cons_zero]
              replace HB := Lib.hid (HB.out.trans (hb.mono HB.out.size))
              replace HO5 := Lib.hid (HO5.out.keep hb)
              replace HFW5 := Lib.hid (HFW5.out.keep hb)
              clear hb
              go_wp2_with fail
              exact ⟨⟨k + 1, by omega, by go_num, by rw [HAA.out]; rfl, by rw [HNN.out]; rfl, HO5.out, HFW5.out⟩, by simp [intOf]; omega⟩
            · skip
              refine Agg.listR 10 (by kernel_rfl) ?_
              simp only [List.take_succ_cons, List.take_zero, List.drop_succ_cons, List.drop_zero]
              refine Agg.chMove rfl rfl rfl rfl ?_
              refine Agg.chMove rfl rfl rfl rfl ?_
              refine Agg.chMove rfl rfl rfl rfl ?_
              refine Agg.chEq (mz == 15) rfl rfl rfl rfl rfl rfl ?_
              refine Agg.chPick rfl rfl rfl rfl rfl ?_
              refine Agg.chMove rfl rfl rfl rfl ?_
              refine Agg.chMove rfl rfl rfl rfl ?_
              refine Agg.chMove rfl rfl rfl rfl ?_
              refine Agg.chEq (mz == 0) rfl rfl rfl rfl rfl rfl ?_
              refine Agg.chPick rfl rfl rfl rfl rfl ?_
              refine Agg.chEnd ?_
              intro vs w94 hb _
              simp only [List.reverse, List.reverseAux, Agg.fill, List.set_cons_succ, List.set_cons_zero]
              replace HB := Lib.hid (HB.out.trans (hb.mono HB.out.size))
              replace HO5 := Lib.hid (HO5.out.keep hb)
              replace HFW5 := Lib.hid (HFW5.out.keep hb)
              clear hb
              go_wp2_with fail
              exact ⟨⟨k + 1, by omega, by go_num, by rw [HAA.out]; rfl, by rw [HNN.out]; rfl, HO5.out, HFW5.out⟩, by simp [intOf]; omega⟩
          · skip
            have hf : mz = 0 := by
              rw [← hmz]; unfold maskZ; rw [List.getElem?_eq_none (by omega)]
            subst hf
            go_upto_region 19 with (fail)
            have hB4 := HFW.out.trans (hbA.mono HFW.out.size)
            have hC3 := own_keep HO.out hbA
            have hsl : SlR (wA.alloc (.cells #[.int .i64 0] 3)) (.slice (some ⟨wA.heap.size, 0, none⟩) 1 1) 1 1 [.int .i64 0] := NewSl.sl (b0 := 0) (e := 3) ⟨_, rfl, Nat.zero_le _, Blk.new wA 3 #[.int .i64 0]⟩ rfl (by unfold maxLen; decide)
            have hlw : wZ.heap.size ≤ (wA.alloc (.cells #[.int .i64 0] 3)).heap.size := Nat.le_trans HFW.out.size hbA.size
            have hmx : k + 1 ≤ maxLen := by unfold maxLen; omega
            have hby : (k + 1) * 8 ≤ 140737488355328 := by omega
            have hone : ∀ u ∈ [Value.int .i64 0], u.oneCell' = true := by simp [Value.oneCell']
            go_upto_region 20 with (refine Agg.append2 tiInt (.tmp 80) (.tmp 82) rfl rfl wZ.heap.size (v := .slice ux k uc) rfl hC3 rfl hsl hone hmx hby hlw (fun v2 w4 hC4 hg4 hwh => ?_); simp only [Act.put, List.setIfInBounds_toArray, List.set_cons_succ, List.set_cons_zero])
            have hC5 : w4.ownsRow wZ.heap.size 3 1 v2 (k + 1) (iC (ownM ms (k + 1))) := by
              have e : iC (ownM ms (k + 1)) = iC (ownM ms k) ++ [.int .i64 (0 : Int)] := by rw [ownM_succ, HMZ.out]; unfold iC; rw [List.map_append]; rfl
              rw [e]; exact hC4
            have hB5 := hB4.trans (grown_below hg4 hlw (own_block hC3))
            have HAA : Hid (allM 15 ms (k + 1) = (al && ((0 : Int) == (15 : Int)))) := Lib.hid (by rw [allM_succ, HAL.out, HMZ.out])
            have HNN : Hid (allM 0 ms (k + 1) = (no && ((0 : Int) == (0 : Int)))) := Lib.hid (by rw [allM_succ, HNL2.out, HMZ.out])
            have HB := Lib.hid (HBZ.out.trans (hB5.mono HBZ.out.size))
            have HO5 := Lib.hid hC5
            have HFW5 : Hid (From wZ w4) := Lib.hid hB5
            obtain ⟨v2x, v2c, rfl, _, _⟩ := (ownSl hC5).shape
            clear hC5 hB5 hC4 hg4 hwh hC3 hsl hlw hmx hby hone hbA hB4 HO HMB HFW HAL HNL2
            cases al <;> cases no
            · skip
              refine Agg.listR 10 (by kernel_rfl) ?_
              simp only [List.take_succ_cons, List.take_zero, List.drop_succ_cons, List.drop_zero]
              refine Agg.chMove rfl rfl rfl rfl ?_
              refine Agg.chMove rfl rfl rfl rfl ?_
              refine Agg.chSkip rfl rfl ?_
              refine Agg.chSkip rfl rfl ?_
              refine Agg.chPick rfl rfl rfl rfl rfl ?_
              refine Agg.chMove rfl rfl rfl rfl ?_
              refine Agg.chMove rfl rfl rfl rfl ?_
              refine Agg.chSkip rfl rfl ?_
              refine Agg.chSkip rfl rfl ?_
              refine Agg.chPick rfl rfl rfl rfl rfl ?_
              refine Agg.chEnd ?_
              intro vs w91 hb _
              simp only [List.reverse, List.reverseAux, Agg.fill, List.set_cons_succ, List.set_cons_zero]
              replace HB := Lib.hid (HB.out.trans (hb.mono HB.out.size))
              replace HO5 := Lib.hid (HO5.out.keep hb)
              replace HFW5 := Lib.hid (HFW5.out.keep hb)
              clear hb
              go_wp2_with fail
              exact ⟨⟨k + 1, by omega, by go_num, by rw [HAA.out]; rfl, by rw [HNN.out]; rfl, HO5.out, HFW5.out⟩, by simp [intOf]; omega⟩
            · skip
              refine Agg.listR 10 (by kernel_rfl) ?_
              simp only [List.take_succ_cons, List.take_zero, List.drop_succ_cons, List.drop_zero]
              refine Agg.chMove rfl rfl rfl rfl ?_
              refine Agg.chMove rfl rfl rfl rfl ?_
              refine Agg.chSkip rfl rfl ?_
              refine Agg.chSkip rfl rfl ?_
              refine Agg.chPick rfl rfl rfl rfl rfl ?_
              refine Agg.chMove rfl rfl rfl rfl ?_
              refine Agg.chMove rfl rfl rfl rfl ?_
              refine Agg.chMove rfl rfl rfl rfl ?_
              refine Agg.chEq ((0 : Int) == 0) rfl rfl rfl rfl rfl rfl ?_
              refine Agg.chPick rfl rfl rfl rfl rfl ?_
              refine Agg.chEnd ?_
              intro vs w92 hb _
              simp only [List.reverse, List.reverseAux, Agg.fill, List.set_cons_succ, List.set_cons_zero]
              replace HB := Lib.hid (HB.out.trans (hb.mono HB.out.size))
              replace HO5 := Lib.hid (HO5.out.keep hb)
              replace HFW5 := Lib.hid (HFW5.out.keep hb)
              clear hb
              go_wp2_with fail
              exact ⟨⟨k + 1, by omega, by go_num, by rw [HAA.out]; rfl, by rw [HNN.out]; rfl, HO5.out, HFW5.out⟩, by simp [intOf]; omega⟩
            · skip
              refine Agg.listR 10 (by kernel_rfl) ?_
              simp only [List.take_succ_cons, List.take_zero, List.drop_succ_cons, List.drop_zero]
              refine Agg.chMove rfl rfl rfl rfl ?_
              refine Agg.chMove rfl rfl rfl rfl ?_
              refine Agg.chMove rfl rfl rfl rfl ?_
              refine Agg.chEq ((0 : Int) == 15) rfl rfl rfl rfl rfl rfl ?_
              refine Agg.chPick rfl rfl rfl rfl rfl ?_
              refine Agg.chMove rfl rfl rfl rfl ?_
              refine Agg.chMove rfl rfl rfl rfl ?_
              refine Agg.chSkip rfl rfl ?_
              refine Agg.chSkip rfl rfl ?_
              refine Agg.chPick rfl rfl rfl rfl rfl ?_
              refine Agg.chEnd ?_
              intro vs w93 hb _
              simp only [List.reverse, List.reverseAux, Agg.fill, List.set_cons_succ, List.set_cons_zero]
              replace HB := Lib.hid (HB.out.trans (hb.mono HB.out.size))
              replace HO5 := Lib.hid (HO5.out.keep hb)
              replace HFW5 := Lib.hid (HFW5.out.keep hb)
              clear hb
              go_wp2_with fail
              exact ⟨⟨k + 1, by omega, by go_num, by rw [HAA.out]; rfl, by rw [HNN.out]; rfl, HO5.out, HFW5.out⟩, by simp [intOf]; omega⟩
            · skip
              refine Agg.listR 10 (by kernel_rfl) ?_
              simp only [List.take_succ_cons, List.take_zero, List.drop_succ_cons, List.drop_zero]
              refine Agg.chMove rfl rfl rfl rfl ?_
              refine Agg.chMove rfl rfl rfl rfl ?_
              refine Agg.chMove rfl rfl rfl rfl ?_
              refine Agg.chEq ((0 : Int) == 15) rfl rfl rfl rfl rfl rfl ?_
              refine Agg.chPick rfl rfl rfl rfl rfl ?_
              refine Agg.chMove rfl rfl rfl rfl ?_
              refine Agg.chMove rfl rfl rfl rfl ?_
              refine Agg.chMove rfl rfl rfl rfl ?_
              refine Agg.chEq ((0 : Int) == 0) rfl rfl rfl rfl rfl rfl ?_
              refine Agg.chPick rfl rfl rfl rfl rfl ?_
              refine Agg.chEnd ?_
              intro vs w94 hb _
              simp only [List.reverse, List.reverseAux, Agg.fill, List.set_cons_succ, List.set_cons_zero]
              replace HB := Lib.hid (HB.out.trans (hb.mono HB.out.size))
              replace HO5 := Lib.hid (HO5.out.keep hb)
              replace HFW5 := Lib.hid (HFW5.out.keep hb)
              clear hb
              go_wp2_with fail
              exact ⟨⟨k + 1, by omega, by go_num, by rw [HAA.out]; rfl, by rw [HNN.out]; rfl, HO5.out, HFW5.out⟩, by simp [intOf]; omega⟩
        · skip
          obtain rfl : k = A2.length := by omega
          have hml2 : M.length = A2.length := by rw [← HME.out]; exact ownM_length _ _
          have hown : Ints wA (.slice ux A2.length uc) M := by
            have h := ownSl HO.out
            rw [HME.out] at h
            show SlR _ _ 1 M.length _
            rw [hml2]; exact h
          have HOI := Lib.hid hown
          have HN := Lib.hid (HNZ.out.keep HFW.out)
          have H13 := Lib.hid (H13Z.out.keep HFW.out)
          have H8 := Lib.hid (H8Z.out.keep HFW.out)
          have HUA := Lib.hid (SlR.keep HUAZ.out HFW.out)
          have HUB := Lib.hid (SlR.keep HUBZ.out HFW.out)
          have HU9 := Lib.hid (SlR.keep HU9Z.out HFW.out)
          have hcr := fun W v mv hv hm => crash_R (w := W) (v := v) (d := N) HNG.out (by have := HNL.out; omega) hv (ms := M) (mv := mv) (by omega) hm
          rw [HWF.out.crash] at hcr
          have hgt := HGT.out C HWF.out.good HWF.out.len
          obtain ⟨g2, hg2⟩ : ∃ g2, fGet C A2 fk B2.length = g2 := ⟨_, rfl⟩
          rw [hg2] at hgt
          have HGC := Lib.hid hgt
          have HG2 := Lib.hid hg2
          have HCR := Lib.hid hcr
          clear hown hml2 HO HMB hcr hgt hg2
          have h13 := H13.out
          go_wp2_with (refine Agg.gLoadB 4 h13 rfl rfl rfl rfl (by decide +kernel) ?_; simp only [Act.put, List.setIfInBounds_toArray, List.set_cons_succ, List.set_cons_zero])
          clear h13
          refine (HCR.out wA _ _ HN.out HOI.out).mono ?_
          rintro e w95 ⟨u7, rfl, hu7, hb⟩
          replace HB := Lib.hid (HB.out.trans (hb.mono HB.out.size))
          replace HN := Lib.hid (HN.out.keep hb)
          replace H13 := Lib.hid (H13.out.keep hb)
          replace H8 := Lib.hid (H8.out.keep hb)
          replace HUA := Lib.hid (HUA.out.keep hb)
          replace HUB := Lib.hid (HUB.out.keep hb)
          replace HU9 := Lib.hid (HU9.out.keep hb)
          replace HOI := Lib.hid (HOI.out.keep hb)
          clear hb
          have HCD := Lib.hid hu7.read
          obtain ⟨pz, pzc, qz, qzc, rfl⟩ := HCD.out.shape
          clear hu7 HCR HN H13 HOI
          go_upto_region 23 with (fail)
          refine Agg.wp_at fun w96 hw96 => ?_
          have hb : Below w95.heap.size w95 w96 := by rw [hw96.out]; repeat (first | exact Below.refl _ _ | refine Agg.bel_drew ?_ | refine Agg.bel_alloc ?_ _)
          replace HB := Lib.hid (HB.out.trans (hb.mono HB.out.size))
          replace H8 := Lib.hid (H8.out.keep hb)
          replace HUA := Lib.hid (HUA.out.keep hb)
          replace HUB := Lib.hid (HUB.out.keep hb)
          replace HU9 := Lib.hid (HU9.out.keep hb)
          replace HCD := Lib.hid (HCD.out.keep hb)
          clear hb
          have H20 : Hid (Blk w96 w95.heap.size 46 [.slice pz C.pages.length pzc, .slice qz C.cache.length qzc, .int .i64 C.fuse, .bool C.off]) := by show Blk _ _ _ _; rw [hw96.out]; exact Blk.new w95 46 #[.slice pz C.pages.length pzc, .slice qz C.cache.length qzc, .int .i64 C.fuse, .bool C.off]
          clear hw96
          generalize w95.heap.size = g20 at *
          have xH8_0 := H8.out.cell 0
          have xH8_1 := H8.out.cell 1
          have xH8_2 := H8.out.cell 2
          have lH8 := H8.out.lt
          simp only [List.getElem?_cons_zero, List.getElem?_cons_succ] at xH8_0 xH8_1 xH8_2
          have h20 := H20.out
          go_wp2_with (refine Agg.gLoadB 4 h20 rfl rfl rfl rfl (by decide +kernel) ?_; simp only [Act.put, List.setIfInBounds_toArray, List.set_cons_succ, List.set_cons_zero])
          clear xH8_0 xH8_1 xH8_2 lH8
          clear h20
          refine (HGC.out w96 _ _ HCD.out HUA.out).mono ?_
          rintro e w97 ⟨u8, rfl, hu8, hb⟩
          replace HB := Lib.hid (HB.out.trans (hb.mono HB.out.size))
          replace H8 := Lib.hid (H8.out.keep hb)
          replace HUA := Lib.hid (HUA.out.keep hb)
          replace HUB := Lib.hid (HUB.out.keep hb)
          replace HU9 := Lib.hid (HU9.out.keep hb)
          replace HCD := Lib.hid (HCD.out.keep hb)
          replace H20 := Lib.hid (H20.out.keep hb)
          clear hb
          obtain ⟨ux8, uc8, rfl, _, _⟩ := (ownSl hu8).shape
          have HU8 := Lib.hid (ownSl hu8)
          clear hu8
          cases al
          · skip
            cases no
            · have he : g2 = ([], 300) := by rw [← HG2.out]; exact HWF.out.mid (by rw [← HME.out]; exact allM_false HAL.out) (by rw [← HME.out]; exact allM_false HNL2.out)
              subst he
              go_wp2_with fail
              go_ret
              exact ⟨rfl, HB.out⟩
            · skip
              have he : g2 = g := by rw [← HG2.out, HWF.out.none (by rw [← HME.out]; exact allM_true HNL2.out)]; exact HGE.out
              subst he
              go_upto_region 29 with (fail)
              refine Agg.listR 8 (by kernel_rfl) ?_
              simp only [List.take_succ_cons, List.take_zero, List.drop_succ_cons, List.drop_zero]
              refine Agg.chMove rfl rfl rfl rfl ?_
              refine Agg.chMove rfl rfl rfl rfl ?_
              refine Agg.chEq true (by simp) rfl rfl rfl rfl rfl ?_
              refine Agg.chMove rfl rfl rfl rfl ?_
              refine Agg.chMove rfl rfl rfl rfl ?_
              refine Agg.chMove rfl rfl rfl rfl ?_
              refine Agg.chCall Try.func25 rfl (by kernel_rfl) rfl rfl rfl rfl (fun W hb => eqY_any _ _ _ _ W (SlR.keep HU8.out hb) (SlR.keep HU9.out hb) true (by simp)) ?_
              refine Agg.chPick rfl rfl rfl rfl rfl ?_
              refine Agg.chEnd ?_
              intro vs w98 hb _
              simp only [List.reverse, List.reverseAux, Agg.fill, List.set_cons_succ, List.set_cons_zero]
              replace HB := Lib.hid (HB.out.trans (hb.mono HB.out.size))
              replace H8 := Lib.hid (H8.out.keep hb)
              replace HUB := Lib.hid (HUB.out.keep hb)
              replace HU9 := Lib.hid (HU9.out.keep hb)
              replace HU8 := Lib.hid (HU8.out.keep hb)
              clear hb
              go_wp2_with fail
              go_ret
              exact ⟨rfl, HB.out⟩
          · skip
            have he : g2 = (B2, 0) := by rw [← HG2.out]; exact HWF.out.all (by rw [← HME.out]; exact allM_true HAL.out)
            subst he
            go_upto_region 27 with (fail)
            refine Agg.listR 8 (by kernel_rfl) ?_
            simp only [List.take_succ_cons, List.take_zero, List.drop_succ_cons, List.drop_zero]
            refine Agg.chMove rfl rfl rfl rfl ?_
            refine Agg.chEq true (by simp) rfl rfl rfl rfl rfl ?_
            refine Agg.chMove rfl rfl rfl rfl ?_
            refine Agg.chMove rfl rfl rfl rfl ?_
            refine Agg.chFA fo_FFile_2 rfl rfl rfl rfl ?_
            refine Agg.chLoadB H8.out (by decide +kernel) rfl rfl (by rfl) rfl rfl ?_
            refine Agg.chCall Try.func25 rfl (by kernel_rfl) rfl rfl rfl rfl (fun W hb => eqY_any _ _ _ _ W (SlR.keep HU8.out hb) (SlR.keep HUB.out hb) true (by simp)) ?_
            refine Agg.chPick rfl rfl rfl rfl rfl ?_
            refine Agg.chEnd ?_
            intro vs w99 hb _
            simp only [List.reverse, List.reverseAux, Agg.fill, List.set_cons_succ, List.set_cons_zero]
            replace HB := Lib.hid (HB.out.trans (hb.mono HB.out.size))
            replace H8 := Lib.hid (H8.out.keep hb)
            replace HUB := Lib.hid (HUB.out.keep hb)
            replace HU9 := Lib.hid (HU9.out.keep hb)
            replace HU8 := Lib.hid (HU8.out.keep hb)
            clear hb
            go_wp2_with fail
            go_ret
            exact ⟨rfl, HB.out⟩
end Go.Proofs.Ytgfmpkcgkjpgnaa
