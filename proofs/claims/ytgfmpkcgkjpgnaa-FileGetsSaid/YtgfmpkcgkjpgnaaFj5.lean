/-
  FILES: the document's Get.
-/
import Derived.Test.YtgfmpkcgkjpgnaaFiY
import Derived.Test.YtgfmpkcgkjpgnaaFj4
namespace Go.Proofs.Ytgfmpkcgkjpgnaa
open Go.ChangeShapes Go.WideShapes Go.ChangeAt Go.RowKit Agg Pg Dv Fi
attribute [local go_sem] Oper.semAt_some

theorem rSays_R {d : Dev} {v : Value} {w : World} (hg : DGood d) (hv : DevR w v d) (p : Nat) (hp : p < d.pages.length) (hc : d.cache.length ≤ 1000000) :
    Calls Try.prog 54 #[v, .int .i64 (p : Int)] w fun e w' => e = .returned (.agg (blkC (saysP d.pages d.cache (p : Int))).toArray) ∧ Below w.heap.size w w' := by
  obtain ⟨x, y, cap, cm, rfl, h2, h3⟩ := hv
  exact rSays_any d.pages d.cache d.fuse d.off x y cap cm p hp w hc h2 h3 hg.pages hg.cache
set_option maxHeartbeats 4000000 in
set_option maxRecDepth 100000 in
theorem rfGet_any (d : Dev) (A : List Int) (kind bytes : Int) (dv av : Value) (w : World) (hd : DGood d) (hc : d.cache.length ≤ 10000) (hD : DevR w dv d) (hA : Ints w av A) (hb1 : -9223372036854775808 ≤ bytes) (hb2 : bytes ≤ 9223372036854775807) (hal : A.length ≤ 1000) :
    Calls Try.prog 27 #[dv, av, .int .i64 kind, .int .i64 bytes] w fun e w' => ∃ u, e = .returned (.tuple #[u, .int .i64 (fGet d A kind bytes).2]) ∧ Bytes w' u (fGet d A kind bytes).1 ∧ Below w.heap.size w w' := by
  obtain ⟨ax, ac, rfl, _, _⟩ := SlR.shape hA
  obtain ⟨px, cx, pc, cc, rfl, hk2, hk3⟩ := hD
  have HD : Hid (DevR w (.agg #[.slice px d.pages.length pc, .slice cx d.cache.length cc, .int .i64 d.fuse, .bool d.off]) d) := Lib.hid ⟨px, cx, pc, cc, rfl, hk2, hk3⟩
  have HA0 := Lib.hid hA
  have HDG := Lib.hid hd
  obtain ⟨g, hg⟩ : ∃ g, fGet d A kind bytes = g := ⟨_, rfl⟩
  rw [hg]
  unfold fGet at hg
  obtain ⟨rd, hrd⟩ : ∃ b, rightD d = b := ⟨_, rfl⟩
  obtain ⟨of, hof⟩ : ∃ b, d.off = b := ⟨_, rfl⟩
  obtain ⟨mb, hmb⟩ : ∃ b, mayB A kind bytes d.pages.length = b := ⟨_, rfl⟩
  rw [hrd, hof, hmb] at hg
  have HG := Lib.hid hg
  have HRD := Lib.hid hrd
  have HOF := Lib.hid hof
  have HMB := Lib.hid hmb
  have hre := fun W (hW : DevR W (.agg #[.slice px d.pages.length pc, .slice cx d.cache.length cc, .int .i64 d.fuse, .bool d.off]) d) => right_R hd hW
  rw [hrd] at hre
  have HRE := Lib.hid hre
  have hnil : ∀ W : World, Bytes W (.slice none 0 0) [] := fun W => SlR.nil W 1
  clear hg hrd hof hmb hre hd hA hk2 hk3
  have HB := Lib.hid (Below.refl w.heap.size w)
  go_enter Try.func27, Try.ntmps27
  go_upto_region 1 with (fail)
  refine Agg.wp_at fun w1 hw1 => ?_
  have hb : Below w.heap.size w w1 := by rw [hw1.out]; repeat (first | exact Below.refl _ _ | refine Agg.bel_drew ?_ | refine Agg.bel_alloc ?_ _)
  replace HB := Lib.hid (HB.out.trans (hb.mono HB.out.size))
  replace HD := Lib.hid (HD.out.keep hb)
  clear hb
  have H1 : Hid (Blk w1 w.heap.size 46 [.slice px d.pages.length pc, .slice cx d.cache.length cc, .int .i64 d.fuse, .bool d.off]) := by show Blk _ _ _ _; rw [hw1.out]; exact Blk.new w 46 #[.slice px d.pages.length pc, .slice cx d.cache.length cc, .int .i64 d.fuse, .bool d.off]
  clear hw1
  have h1 := H1.out
  go_wp2_with (refine Agg.gLoadB 4 h1 rfl rfl rfl rfl (by decide +kernel) ?_; simp only [Act.put, List.setIfInBounds_toArray, List.set_cons_succ, List.set_cons_zero])
  clear h1
  refine (HRE.out w1 HD.out).mono ?_
  rintro e w2 ⟨rfl, hb⟩
  replace HB := Lib.hid (HB.out.trans (hb.mono HB.out.size))
  replace HD := Lib.hid (HD.out.keep hb)
  replace H1 := Lib.hid (H1.out.keep hb)
  clear hb
  clear HRE
  cases rd
  · have hg := HG.out
    rw [if_pos rfl] at hg
    subst hg
    go_wp2_with fail
    go_ret2
    exact ⟨_, rfl, hnil _, HB.out⟩
  · have hg := HG.out
    rw [if_neg (by simp)] at hg
    clear HG
    have hnp : d.pages.length ≤ 256 := (right_six HRD.out).2.1
    have x3 := H1.out.cell 3
    simp only [List.getElem?_cons_zero, List.getElem?_cons_succ] at x3
    have hof := HOF.out
    rw [hof] at x3
    cases of
    · rw [if_neg (by simp)] at hg
      have h1 := H1.out
      have HLA := Lib.hid (fun W (hW : Ints W (.slice ax A.length ac) A) => rlaid_any A px cx ax d.pages.length pc d.cache.length cc ac d.fuse d.off kind bytes W hW (by omega) hb2 hnp hal mb HMB.out)
      clear hof
      go_wp2_with (refine Agg.gLoadB 4 h1 rfl rfl rfl rfl (by decide +kernel) ?_; simp only [Act.put, List.setIfInBounds_toArray, List.set_cons_succ, List.set_cons_zero])
      clear h1 x3
      refine (HLA.out w2 (SlR.keep HA0.out HB.out)).mono ?_
      rintro e w3 ⟨rfl, hb⟩
      replace HB := Lib.hid (HB.out.trans (hb.mono HB.out.size))
      replace HD := Lib.hid (HD.out.keep hb)
      replace H1 := Lib.hid (H1.out.keep hb)
      clear hb
      clear HLA
      cases mb
      · rw [if_pos rfl] at hg
        subst hg
        go_wp2_with fail
        go_ret2
        exact ⟨_, rfl, hnil _, HB.out⟩
      · rw [if_neg (by simp)] at hg
        obtain ⟨hm1, hm2, hm3, hm4⟩ := mayB_facts HMB.out
        have hth := may_there HMB.out
        have HRA : Hid (∀ a ∈ A, readP d a = (0, saysP d.pages d.cache a)) := Lib.hid fun a ha => read_pow HRD.out HOF.out (hth a ha)
        have HTH := Lib.hid hth
        obtain ⟨R, hR⟩ : ∃ R, readsP d 0 0 [] A = R := ⟨_, rfl⟩
        have hge := rget_eq HDG.out (kind := kind) (bytes := bytes) (A := A) (fun a ha => by rw [HRA.out a ha]) hm3 hm1 hm2
        rw [hR, hg] at hge
        have HGE := Lib.hid hge
        have HR0 := Lib.hid hR
        have HDZ := HD
        have H1Z := H1
        have HBZ := HB
        obtain ⟨wZ, hwZ⟩ : ∃ x, x = w3 := ⟨_, rfl⟩
        subst hwZ
        clear hge hR hth hg hm4 HD H1 HB
        have hon : ∀ W : World, W.ownsRow wZ.heap.size 5 1 (.slice none 0 0) 0 (bv []) := fun W => World.ownsRow_nil _ _ _ _
        go_wp2_with fail
        go_loopw [35, 10, 11] (fun ix s10 s11 wr => ∃ (k F : Nat) (O : List UInt8), k ≤ A.length ∧ ix = .int .i64 k ∧ s11 = .int .u64 F ∧ F ≤ 4611686018427387904 ∧ O.length ≤ 120 * k ∧ readsP d k F O (A.drop k) = R ∧ wr.ownsRow wZ.heap.size 5 1 s10 O.length (bv O) ∧ Below wZ.heap.size wZ wr) (fun ix _ _ _ => A.length - (intOf ix).toNat)
        case atStart => exact ⟨0, 0, [], by omega, rfl, rfl, by omega, by simp, HR0.out, hon _, Below.refl _ _⟩
        case round =>
          obtain ⟨k, F, O, hk, rfl, rfl, hF, hO, hrk, ho, hb⟩ := hrel
          have HRK := Lib.hid hrk
          have HO := Lib.hid ho
          have HFZ : Hid (From wZ wr) := Lib.hid hb
          have HB := Lib.hid (HBZ.out.trans (hb.mono HBZ.out.size))
          have HD := Lib.hid (HDZ.out.keep hb)
          have H1 := Lib.hid (H1Z.out.keep hb)
          have HA := Lib.hid (SlR.keep HA0.out HB.out)
          obtain ⟨xo, co, rfl, _, _⟩ := (ownSl ho).shape
          clear hrk ho hb
          obtain ⟨wA, hwA⟩ : ∃ x, x = wr := ⟨_, rfl⟩
          subst hwA
          by_cases hlt : k < A.length
          · obtain ⟨ab, aof, ac', hve, _, _, _, _⟩ := SlR.pos HA.out (by decide) (by omega)
            simp only [Value.slice.injEq, true_and] at hve
            obtain ⟨rfl, rfl⟩ := hve
            have hcell := ints_at HA.out hlt
            have hrk := HRK.out
            rw [List.drop_eq_getElem_cons hlt, readsP] at hrk
            have hra := HRA.out _ (List.getElem_mem hlt)
            have hta := HTH.out _ (List.getElem_mem hlt)
            obtain ⟨a, ha⟩ : ∃ y, A[k] = y := ⟨_, rfl⟩
            rw [ha] at hcell hrk hra hta
            obtain ⟨pn, rfl, hpn⟩ := there_nat hta
            rw [hra] at hrk
            have hbo : BOk (saysP d.pages d.cache (pn : Int)) := saysP_bok HDG.out.pages HDG.out.cache _
            have hsy := fun W (hW : DevR W (.agg #[.slice px d.pages.length pc, .slice cx d.cache.length cc, .int .i64 d.fuse, .bool d.off]) d) => rSays_R HDG.out hW pn hpn (by omega)
            obtain ⟨b1, hb1e⟩ : ∃ b, saysP d.pages d.cache (pn : Int) = b := ⟨_, rfl⟩
            rw [hb1e] at hrk hbo hsy
            obtain ⟨⟨⟨k2, d2⟩, n2, e2⟩, hrr⟩ : ∃ r, readR b1 = r := ⟨_, rfl⟩
            simp only [hrr] at hrk
            have hcs := readR_cases b1 hbo k2 d2 n2 e2 hrr
            have HSY := Lib.hid hsy
            have HRR := Lib.hid hrr
            have HRX := Lib.hid hrk
            have HBO := Lib.hid hbo
            have HCS := Lib.hid hcs
            clear ha hrk hra hta hbo hsy hb1e hrr hcs HRK
            have h1 := H1.out
            go_wp2_with (refine Agg.gLoadB 4 h1 rfl rfl rfl rfl (by decide +kernel) ?_; simp only [Act.put, List.setIfInBounds_toArray, List.set_cons_succ, List.set_cons_zero])
            clear h1 hcell
            refine (HSY.out wA HD.out).mono ?_
            rintro e w41 ⟨rfl, hb⟩
            replace HB := Lib.hid (HB.out.trans (hb.mono HB.out.size))
            replace HFZ := Lib.hid (HFZ.out.keep hb)
            replace HD := Lib.hid (HD.out.keep hb)
            replace H1 := Lib.hid (H1.out.keep hb)
            replace HO := Lib.hid (HO.out.keep hb)
            clear hb
            clear HSY
            go_wp2_with fail
            refine (pgrRead_any b1 HBO.out w41 k2 d2 n2 e2 HRR.out).mono ?_
            rintro e w42 ⟨u2, rfl, hu2, hb⟩
            replace HB := Lib.hid (HB.out.trans (hb.mono HB.out.size))
            replace HFZ := Lib.hid (HFZ.out.keep hb)
            replace HD := Lib.hid (HD.out.keep hb)
            replace H1 := Lib.hid (H1.out.keep hb)
            replace HO := Lib.hid (HO.out.keep hb)
            clear hb
            obtain ⟨ux, uc, rfl, _, _⟩ := hu2.shape
            have HU := Lib.hid hu2
            clear hu2
            go_upto_region 13 with (first
              | (refine Agg.allocRow 101 #[.int .i64 0, .slice none 0 0] rfl rfl (by kernel_rfl) ?_; simp only [Act.put, List.setIfInBounds_toArray, List.set_cons_succ, List.set_cons_zero])
              | (refine Agg.gStoreNew 2 [.int .i64 k2, .slice ux d2.length uc] rfl rfl rfl rfl rfl rfl (by decide +kernel) rfl rfl (by simp [Value.oneCell']) ?_; simp only [Act.put]))
            refine Agg.wp_at fun w43 hw43 => ?_
            have hb : Below w42.heap.size w42 w43 := by rw [hw43.out]; repeat (first | exact Below.refl _ _ | refine Agg.bel_drew ?_ | refine Agg.bel_alloc ?_ _)
            replace HB := Lib.hid (HB.out.trans (hb.mono HB.out.size))
            replace HFZ := Lib.hid (HFZ.out.keep hb)
            replace HD := Lib.hid (HD.out.keep hb)
            replace H1 := Lib.hid (H1.out.keep hb)
            replace HO := Lib.hid (HO.out.keep hb)
            replace HU := Lib.hid (HU.out.keep hb)
            clear hb
            have HPG : Hid (Blk w43 w42.heap.size 101 [.int .i64 k2, .slice ux d2.length uc]) := by show Blk _ _ _ _; rw [hw43.out]; exact Blk.new w42 101 #[.int .i64 k2, .slice ux d2.length uc]
            clear hw43
            obtain ⟨bp, hbp⟩ : ∃ b, w42.heap.size = b := ⟨_, rfl⟩
            rw [hbp] at HPG ⊢
            clear hbp
            by_cases he : e2 = 0
            · have hrx := HRX.out
              rw [if_neg (fun h => h he)] at hrx
              have hd2 : d2.length ≤ 120 ∧ n2 ≤ 4611686018427387904 := by
                rcases HCS.out with ⟨_, h1, h2, _⟩ | ⟨h1, _⟩
                · exact ⟨h1.2.2, h2.2⟩
                · exact absurd he h1
              have hx := HPG.out.cell 1
              simp only [List.getElem?_cons_succ, List.getElem?_cons_zero] at hx
              have hub := Lib.hid HU.out
              have hsz := HFZ.out.size
              have HRX2 := Lib.hid hrx
              clear hrx HRX HCS HRR
              by_cases hk0 : k = 0
              · have hkb : ((k : Int) == 0) = true := by simp [hk0]
                have hrx := HRX2.out
                rw [if_pos hk0] at hrx
                have HRX3 := Lib.hid hrx
                clear hrx HRX2
                go_wp2_with (refine Agg.append2 ti25 (.tmp 53) (.tmp 55) rfl rfl wZ.heap.size (v := .slice xo O.length co) rfl HO.out rfl hub.out (bv_one d2) (by unfold maxLen; omega) (by omega) hsz (fun v2 w4 hC4 hg4 hwh => ?_); simp only [Act.put, List.setIfInBounds_toArray, List.set_cons_succ, List.set_cons_zero])
                have hF4 : Below wZ.heap.size wZ w4 := HFZ.out.trans (grown_below hg4 hsz (own_block HO.out))
                exact ⟨⟨k + 1, n2, O ++ d2, by omega, by go_num, rfl, by omega, by rw [List.length_append]; omega, HRX3.out, by rw [List.length_append, bv_append]; exact hC4, hF4⟩, by simp [intOf]; omega⟩
              · have hkb : ((k : Int) == 0) = false := by simp [hk0]
                have hrx := HRX2.out
                rw [if_neg hk0] at hrx
                have HRX3 := Lib.hid hrx
                clear hrx HRX2
                go_wp2_with (refine Agg.append2 ti25 (.tmp 53) (.tmp 55) rfl rfl wZ.heap.size (v := .slice xo O.length co) rfl HO.out rfl hub.out (bv_one d2) (by unfold maxLen; omega) (by omega) hsz (fun v2 w4 hC4 hg4 hwh => ?_); simp only [Act.put, List.setIfInBounds_toArray, List.set_cons_succ, List.set_cons_zero])
                have hF4 : Below wZ.heap.size wZ w4 := HFZ.out.trans (grown_below hg4 hsz (own_block HO.out))
                exact ⟨⟨k + 1, F, O ++ d2, by omega, by go_num, rfl, by omega, by rw [List.length_append]; omega, HRX3.out, by rw [List.length_append, bv_append]; exact hC4, hF4⟩, by simp [intOf]; omega⟩
            · have hrx := HRX.out
              rw [if_pos he] at hrx
              have hgn : g = ([], 300) := by
                rcases HGE.out with ⟨F', O', h1, _⟩ | ⟨_, h⟩
                · rw [← hrx] at h1; cases h1
                · exact h
              subst hgn
              have HBW := Lib.hid (HBZ.out.trans (HFZ.out.mono HBZ.out.size))
              go_wp2_with fail
              go_ret2
              exact ⟨_, rfl, hnil _, HBW.out⟩
          · obtain rfl : k = A.length := by omega
            have hrk := HRK.out
            rw [List.drop_length, readsP] at hrk
            rw [← hrk] at HGE
            clear hrk HRK HR0
            by_cases hlen : (O.length : Int) = bytes
            · have HBT := Lib.hid (fun W (v : Value) (hW : Bytes W v O) => rBlocks_any kind F O v A.length W hW hm3 (by omega) (by rw [hm2, hlen]) (by omega))
              have HUO := Lib.hid (ownSl HO.out)
              have hlb : ((O.length : Int) != bytes) = false := bne_eq_false_iff_eq.2 hlen
              clear hlen
              go_wp2_with fail
              refine (HBT.out wA _ HUO.out).mono ?_
              rintro e w61 ⟨ubl, rfl, hbl, hb⟩
              replace HB := Lib.hid (HB.out.trans (hb.mono HB.out.size))
              replace HFZ := Lib.hid (HFZ.out.keep hb)
              replace HD := Lib.hid (HD.out.keep hb)
              replace H1 := Lib.hid (H1.out.keep hb)
              replace HO := Lib.hid (HO.out.keep hb)
              clear hb
              clear HBT
              obtain ⟨bx5, bc5, rfl, _, _⟩ := (ownSl hbl).shape
              have HBK := Lib.hid (ownSl hbl)
              clear hbl
              obtain ⟨wY, hwY⟩ : ∃ x, x = w61 := ⟨_, rfl⟩
              subst hwY
              have HFY := HFZ
              have HDY := HD
              have H1Y := H1
              have HOY := HO
              have HBKY := HBK
              have HBW := Lib.hid (HBZ.out.trans (HFY.out.mono HBZ.out.size))
              clear HFZ HD H1 HO HBK HB
              go_wp2_with fail
              go_loopw [67] (fun ix wr => ∃ j : Nat, j ≤ A.length ∧ ix = .int .i64 j ∧ (∀ i (h : i < A.length), i < j → layB kind (partB O i) (F + i) = (readP d A[i]).2) ∧ Below wY.heap.size wY wr) (fun ix _ => A.length - (intOf ix).toNat)
              case atStart => exact ⟨0, by omega, rfl, fun i _ h => by omega, Below.refl _ _⟩
              case round =>
                obtain ⟨j, hj, rfl, hls, hb⟩ := hrel
                have HLS := Lib.hid hls
                have HB := Lib.hid (HBW.out.trans (hb.mono HBW.out.size))
                have HFW : Hid (From wY wr) := Lib.hid hb
                have HD := Lib.hid (HDY.out.keep hb)
                have H1 := Lib.hid (H1Y.out.keep hb)
                have HA := Lib.hid (SlR.keep HA0.out HB.out)
                have hbk := SlR.keep HBKY.out hb
                clear hls hb
                obtain ⟨wC, hwC⟩ : ∃ x, x = wr := ⟨_, rfl⟩
                subst hwC
                by_cases hlj : j < A.length
                · obtain ⟨ab, aof, ac', hve, _, _, _, _⟩ := SlR.pos HA.out (by decide) (by omega)
                  simp only [Value.slice.injEq, true_and] at hve
                  obtain ⟨rfl, rfl⟩ := hve
                  obtain ⟨bb, ob, cb, hve, _, _, _, _⟩ := SlR.pos hbk (by decide) (by omega)
                  simp only [Value.slice.injEq, true_and] at hve
                  obtain ⟨rfl, rfl⟩ := hve
                  have hcell := ints_at HA.out hlj
                  have hbj : j < (blkL kind F O A.length).length := by rw [blkL_length]; exact hlj
                  have hcs := flat_at blkC 132 (by decide) (l := blkL kind F O A.length) (by rw [blkL_length]; exact hbk) (fun b hb => by
                    obtain ⟨i, hi, rfl⟩ := List.mem_map.1 hb
                    exact bok_cells (lay_bok _ _ _ (partB_len _ _) (by have := List.mem_range.1 hi; omega))) hbj
                  rw [blkL_at kind F O A.length j hlj] at hcs
                  have hbok := lay_bok kind (partB O j) (F + j) (partB_len O j) (by omega)
                  have hra := HRA.out _ (List.getElem_mem hlj)
                  have hta := HTH.out _ (List.getElem_mem hlj)
                  have hstep : ∀ b a : List Sec, b = layB kind (partB O j) (F + j) → a = (readP d A[j]).2 → b = a → ∀ i (h : i < A.length), i < j + 1 → layB kind (partB O i) (F + i) = (readP d A[i]).2 := by
                    intro b a e1 e2 e3 i hi hij
                    by_cases hij2 : i < j
                    · exact HLS.out i hi hij2
                    · obtain rfl : i = j := by omega
                      rw [← e1, ← e2, e3]
                  have hnot : ∀ b a : List Sec, b = layB kind (partB O j) (F + j) → a = (readP d A[j]).2 → b ≠ a → ¬ liesP d A kind F O := by
                    intro b a e1 e2 e3 hl
                    exact e3 (by rw [e1, e2]; exact hl j hlj)
                  rw [hra] at hstep hnot
                  obtain ⟨a, ha⟩ : ∃ y, A[j] = y := ⟨_, rfl⟩
                  rw [ha] at hcell hra hta hstep hnot
                  obtain ⟨pn, rfl, hpn⟩ := there_nat hta
                  have hbo : BOk (saysP d.pages d.cache (pn : Int)) := saysP_bok HDG.out.pages HDG.out.cache _
                  have hsy := fun W (hW : DevR W (.agg #[.slice px d.pages.length pc, .slice cx d.cache.length cc, .int .i64 d.fuse, .bool d.off]) d) => rSays_R HDG.out hW pn hpn (by omega)
                  obtain ⟨sb, hsbe⟩ : ∃ b, saysP d.pages d.cache (pn : Int) = b := ⟨_, rfl⟩
                  obtain ⟨bl, hble⟩ : ∃ b, layB kind (partB O j) (F + j) = b := ⟨_, rfl⟩
                  rw [hsbe] at hbo hsy hstep hnot
                  rw [hble] at hcs hbok hstep hnot
                  obtain ⟨q, hq⟩ : ∃ q, decide (bl = sb) = q := ⟨_, rfl⟩
                  have HNQ := Lib.hid (blk_neq bl sb hbok hbo q hq)
                  have HSTEP := Lib.hid (hstep bl sb rfl rfl)
                  have HNOT := Lib.hid (hnot bl sb rfl rfl)
                  have HQ := Lib.hid hq
                  have HSY := Lib.hid hsy
                  have HCS := Lib.hid hcs
                  have HCE := Lib.hid hcell
                  have H132 := Lib.hid (bok_cells hbok)
                  have HONE := Lib.hid (blkC_one bl)
                  clear ha hra hta hbo hsy hsbe hble hq hstep hnot hcs hcell hbok hbk hbj HLS
                  obtain ⟨gb, hgb⟩ : ∃ q, wC.heap.size = q := ⟨_, rfl⟩
                  go_upto_region 24 with (first
                    | (refine Agg.gLoad 132 (blkC bl) rfl rfl rfl (by decide +kernel) H132.out HCS.out ?_; simp only [Act.put, List.setIfInBounds_toArray, List.set_cons_succ, List.set_cons_zero])
                    | (refine Agg.allocRow 64 (blkC zeroB).toArray rfl rfl (by kernel_rfl) ?_; simp only [Act.put, List.setIfInBounds_toArray, List.set_cons_succ, List.set_cons_zero])
                    | (refine Agg.gStoreNew 132 (blkC bl) rfl rfl rfl rfl rfl rfl (by decide +kernel) H132.out zero132 HONE.out ?_; simp only [Act.put]))
                  have HX := Lib.hid (Blk.newAt wC 64 (blkC bl).toArray gb hgb.symm)
                  have hbD : Below wC.heap.size wC (wC.alloc (.cells (blkC bl).toArray 64)) := (Below.refl _ _).alloc (Nat.le_refl _) _
                  refine Agg.wp_at fun wD hwD => ?_
                  rw [← hwD.out] at HX hbD
                  rw [hgb]
                  clear hwD hgb HONE HCS
                  have hb := hbD
                  replace HB := Lib.hid (HB.out.trans (hb.mono HB.out.size))
                  replace HFW := Lib.hid (HFW.out.keep hb)
                  replace HD := Lib.hid (HD.out.keep hb)
                  replace H1 := Lib.hid (H1.out.keep hb)
                  clear hb
                  have HCD := Lib.hid (cell_keep hbD HCE.out)
                  clear hbD HCE
                  refine Agg.chainR 8 (by kernel_rfl) (by kernel_rfl) ?_
                  simp only [List.take_succ_cons, List.take_zero, List.drop_succ_cons, List.drop_zero]
                  refine Agg.chRowB 132 HX.out H132.out (by decide +kernel) rfl rfl rfl rfl ?_
                  refine Agg.chRowB 4 H1.out rfl (by decide +kernel) rfl rfl rfl rfl ?_
                  refine Agg.chMove rfl rfl rfl rfl ?_
                  refine Agg.chMove rfl rfl rfl rfl ?_
                  refine Agg.chIA tiInt (by omega) (by omega) rfl rfl rfl rfl rfl ?_
                  refine Agg.chLoad rfl rfl rfl rfl (by decide +kernel) (by simp only [Int.toNat_natCast, Nat.mul_one]; exact HCD.out) ?_
                  refine Agg.chCall Try.func54 rfl (by kernel_rfl) rfl rfl rfl rfl (fun W hb => HSY.out W (HD.out.keep hb)) ?_
                  refine Agg.chBin (v := .bool (!q)) rfl rfl rfl rfl rfl (fun w => flatBlk.gd .neq _ _ _ _ w) HNQ.out ?_
                  refine Agg.chEnd ?_
                  intro vs w91 hb _
                  refine Agg.wpNil ?_
                  simp only [List.reverse, List.reverseAux, Agg.fill, List.set_cons_succ, List.set_cons_zero]
                  replace HB := Lib.hid (HB.out.trans (hb.mono HB.out.size))
                  replace HFW := Lib.hid (HFW.out.keep hb)
                  replace HD := Lib.hid (HD.out.keep hb)
                  replace H1 := Lib.hid (H1.out.keep hb)
                  clear hb
                  cases q
                  · have hne := of_decide_eq_false HQ.out
                    have hgn : g = ([], 300) := by
                      rcases HGE.out with ⟨F', O', h1, _, h3, _⟩ | ⟨_, h⟩
                      · cases h1; exact absurd h3 (HNOT.out hne)
                      · exact h
                    subst hgn
                    clear hne
                    go_wp2_with fail
                    go_ret2
                    exact ⟨_, rfl, hnil _, HB.out⟩
                  · have hst := Lib.hid (HSTEP.out (of_decide_eq_true HQ.out))
                    clear HSTEP HNOT HNQ
                    go_wp2_with fail
                    exact ⟨⟨j + 1, by omega, by go_num, hst.out, HFW.out⟩, by simp [intOf]; omega⟩
                · obtain rfl : j = A.length := by omega
                  have hli : liesP d A kind F O := fun i hi => HLS.out i hi hi
                  have hgn : g = (O, 0) := by
                    rcases HGE.out with ⟨F', O', h1, _, _, h4⟩ | ⟨h, _⟩
                    · cases h1; exact h4
                    · exact absurd hli (h F O rfl (by have := bne_eq_false_iff_eq.1 hlb; exact this))
                  subst hgn
                  have HOz := Lib.hid (SlR.keep (ownSl HOY.out) HFW.out)
                  clear hli HLS hbk
                  go_wp2_with fail
                  go_ret2
                  exact ⟨_, rfl, HOz.out, HB.out⟩
            · have hgn : g = ([], 300) := by
                rcases HGE.out with ⟨F', O', h1, h2, _⟩ | ⟨_, h⟩
                · cases h1; exact absurd h2 hlen
                · exact h
              subst hgn
              have hlb : ((O.length : Int) != bytes) = true := bne_iff_ne.2 hlen
              have HBW := Lib.hid (HBZ.out.trans (HFZ.out.mono HBZ.out.size))
              clear hlen
              go_wp2_with fail
              go_ret2
              exact ⟨_, rfl, hnil _, HBW.out⟩
    · rw [if_pos rfl] at hg
      subst hg
      go_wp2_with fail
      go_ret2
      exact ⟨_, rfl, hnil _, HB.out⟩
end Go.Proofs.Ytgfmpkcgkjpgnaa
