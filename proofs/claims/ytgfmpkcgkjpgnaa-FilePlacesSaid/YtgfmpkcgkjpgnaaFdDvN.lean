/-
  DEVICES: backwards, an iterator.
-/
import Derived.Test.YtgfmpkcgkjpgnaaFdDvM
import Derived.Test.YtgfmpkcgkjpgnaaIter3
namespace Go.Proofs.Ytgfmpkcgkjpgnaa
open Go.ChangeShapes Go.WideShapes Go.ChangeAt Go.RowKit Agg Pg Dv
attribute [local go_sem] Oper.semAt_some

/-- the blocks of a page's writes -/
def ofPage (k : Int) (l : List (Int × List Sec)) : List (List Sec) := (l.filter fun x => decide (x.1 = k)).map (·.2)
theorem ofPage_append (k : Int) (l m : List (Int × List Sec)) : ofPage k (l ++ m) = ofPage k l ++ ofPage k m := by simp [ofPage]
theorem ofPage_succ (k : Int) (l : List (Int × List Sec)) (r : Nat) (h : r < l.length) : ofPage k (l.take (r + 1)) = ofPage k (l.take r) ++ if l[r].1 = k then [l[r].2] else [] := by
  rw [List.take_succ_eq_append_getElem h, ofPage_append]
  by_cases e : l[r].1 = k <;> simp [ofPage, e]
theorem ofPage_at (k : Int) (l : List (Int × List Sec)) (r : Nat) (h : r < l.length) (e : l[r].1 = k) : ∃ h2 : (ofPage k (l.take r)).length < (ofPage k l).length, (ofPage k l)[(ofPage k (l.take r)).length] = l[r].2 := by
  have h1 : ofPage k l = ofPage k (l.take r) ++ (l[r].2 :: ofPage k (l.drop (r + 1))) := by
    conv => lhs; rw [← List.take_append_drop (r + 1) l]
    rw [ofPage_append, ofPage_succ k l r h, if_pos e]; simp
  have h2 : (ofPage k (l.take r)).length < (ofPage k l).length := by rw [h1]; simp
  refine ⟨h2, ?_⟩
  have h3 : (ofPage k l)[(ofPage k (l.take r)).length]? = some l[r].2 := by
    conv => lhs; rw [h1]
    simp
  exact (List.getElem?_eq_some_iff.1 h3).2
def encB (b : List Sec) : Array Value := #[.agg (blkC b).toArray]
set_option maxHeartbeats 4000000 in
set_option maxRecDepth 100000 in
theorem backwards_iter (l : List (Int × List Sec)) (k : Int) (p z q : Value) (y : Option Addr) (cm : Nat) (T : TypeId) (db kb : Nat) (w0 : World) (hl : l.length ≤ 1000000) (hC : ∀ x ∈ l, BOk x.2)
    (hD : Blk w0 db T [p, .slice y l.length cm, z, q]) (hK : Blk w0 kb 3 [.int .i64 k]) (hv : Wrs w0 (.slice y l.length cm) l) :
    Iter Try.prog 79 #[.pointer (some ⟨db, 0, none⟩), .pointer (some ⟨kb, 0, none⟩)] encB (fun A B => Below A.heap.size A B) (Below w0.heap.size) (ofPage k l.reverse) (Below w0.heap.size w0) := by
  intro lr J Jx W hok hJ hJx hY h0
  have HCB := Lib.hid hC
  have HD0 := Lib.hid hD
  have HK0 := Lib.hid hK
  have HV0 := Lib.hid hv
  have HW : Hid (∀ x ∈ l, (wrC x).length = 133) := Lib.hid (fun x hx => wrC_length x (hC x hx))
  have hln : (l.length : Int) ≤ 1000000 := by omega
  have HJ := Lib.hid hJ
  have HJX := Lib.hid hJx
  have HY := Lib.hid hY
  have HD := Lib.hid (hD.keep hok)
  have HOK := Lib.hid hok
  have H00 := Lib.hid h0
  clear hC hD hK hv hJ hJx hY hok h0 hl
  go_enter Try.func79, Try.ntmps79
  have c1 := HD.out.cell 1
  simp only [List.getElem?_cons_zero, List.getElem?_cons_succ] at c1
  go_wp2_with fail
  clear c1
  go_loopw [4, 5] (fun i _ wr => ∃ r : Nat, r ≤ l.length ∧ i = .int .i64 ((l.length : Int) - 1 - r) ∧ Below w0.heap.size w0 wr ∧ J (ofPage k (l.reverse.take r)).length wr) (fun i _ _ => (intOf i + 1).toNat)
  case atStart => exact ⟨0, by omega, by simp, HOK.out, H00.out⟩
  case round =>
    obtain ⟨r, hr, rfl, hb, hj⟩ := hrel
    have HB := Lib.hid hb
    have HJ0 := Lib.hid hj
    clear hb hj HOK H00 HD
    by_cases hlt : r < l.length
    · obtain ⟨j, hj⟩ : ∃ j : Nat, j = l.length - 1 - r := ⟨_, rfl⟩
      have hjl : j < l.length := by omega
      have hji : (l.length : Int) - 1 - r = j := by omega
      have HJ1 : Hid ((l.length : Int) - 1 - (r + 1 : Nat) = (j : Int) - 1) := Lib.hid (by omega)
      have hrl : r < l.reverse.length := by rw [List.length_reverse]; exact hlt
      have hjr : l.reverse[r] = l[j] := by rw [List.getElem_reverse]; congr 1; omega
      have HS := Lib.hid (ofPage_succ k l.reverse r hrl)
      have HA := Lib.hid (ofPage_at k l.reverse r hrl)
      rw [hjr] at HS HA
      rw [hji]
      have HD := Lib.hid (HD0.out.keep HB.out)
      have HK := Lib.hid (HK0.out.keep HB.out)
      have HV := Lib.hid (SlR.keep HV0.out HB.out)
      obtain ⟨b, o, cap', hve, _, _, _, _⟩ := SlR.pos HV.out (by decide) (by omega)
      simp only [Value.slice.injEq, true_and] at hve
      obtain ⟨rfl, rfl⟩ := hve
      have hcs := flat_at wrC 133 (by decide) HV.out HW.out hjl
      have h133 := HW.out _ (List.getElem_mem hjl)
      have h1 := wrC_one l[j]
      have HBO := Lib.hid (HCB.out _ (List.getElem_mem hjl))
      obtain ⟨M, hM⟩ : ∃ M, (ofPage k (l.reverse.take r)).length = M := ⟨_, rfl⟩
      rw [hM] at HJ0 HA
      have HM := Lib.hid hM
      generalize l[j] = s at *
      clear hj hji hrl hjr hM
      obtain ⟨wA, hwA⟩ : ∃ x, x = wr := ⟨_, rfl⟩
      subst hwA
      have c1 := HD.out.cell 1
      simp only [List.getElem?_cons_zero, List.getElem?_cons_succ] at c1
      go_upto_region 4 with (first
        | (refine Agg.gLoad 133 (wrC s) rfl rfl rfl (by decide +kernel) h133 hcs ?_; simp only [Act.put, List.setIfInBounds_toArray, List.set_cons_succ, List.set_cons_zero])
        | (refine Agg.allocRow 88 wr0.toArray rfl rfl (by kernel_rfl) ?_; simp only [Act.put, List.setIfInBounds_toArray, List.set_cons_succ, List.set_cons_zero])
        | (refine Agg.gStoreNew 133 (wrC s) rfl rfl rfl rfl rfl rfl (by decide +kernel) h133 wr0_size h1 ?_; simp only [Act.put]))
      have HBX := Lib.hid (Blk.new wA 88 (wrC s).toArray)
      have hbA : Below wA.heap.size wA (wA.alloc (.cells (wrC s).toArray 88)) := (Below.refl _ _).alloc (Nat.le_refl _) _
      have HJB := Lib.hid (HJ.out _ _ _ HJ0.out hbA)
      have HBB := Lib.hid (HB.out.trans (hbA.mono HB.out.size))
      have HKB := Lib.hid (HK.out.keep hbA)
      refine Agg.wp_at fun wB hwB => ?_
      rw [← hwB.out] at HBX HJB HBB HKB
      clear hwB hcs h1 h133 hbA c1 HD HK HV HB HJ0
      have e0 := HBX.out.cell 0
      have ek := HKB.out.cell 0
      simp only [wrC, List.getElem?_cons_zero] at e0 ek
      by_cases hs : s.1 = k
      · have hsb : (s.1 == k) = true := by simpa using hs
        obtain ⟨hMl, hMe⟩ := HA.out hs
        obtain ⟨fn, tmps, assign, body, hy, hR⟩ := HY.out M hMl wB HJB.out
        rw [hMe] at hy
        dsimp only [encB] at hy
        have HMS : Hid ((ofPage k (l.reverse.take (r + 1))).length = M + 1) := Lib.hid (by rw [HS.out, if_pos hs, List.length_append, HM.out]; rfl)
        clear hs HA HS hMe
        have h132 := bok_cells HBO.out
        have hc132 : ∀ i v, (blkC s.2)[i]? = some v → wB.cell? ⟨wA.heap.size, 1 + i, none⟩ = some v := fun i v hi => by
          rw [HBX.out.cell, show 1 + i = i + 1 by omega]; exact hi
        refine (wpIn_wide (n := 2)).1 ?_
        gi_wp2_with (refine Agg.gLoadIn 132 (blkC s.2) rfl rfl rfl (by decide +kernel) h132 hc132 ?_; simp only [Act.put, List.setIfInBounds_toArray, List.set_cons_succ, List.set_cons_zero])
        refine hR.mono ?_
        rintro e W2 (⟨rfl, hJ2, hk2⟩ | ⟨rfl, hJx2⟩)
        · have HJ2 := Lib.hid hJ2
          have HB2 := Lib.hid (HBB.out.trans hk2)
          clear hJ2 hk2 hR hy h132 hc132 e0 ek HBX HKB HJB HBB
          gi_wp2
          go_wp2_with fail
          go_roundw
          case rel => exact ⟨r + 1, by omega, by rw [HJ1.out], HB2.out, by rw [HMS.out]; exact HJ2.out⟩
          case measure => simp [intOf]
        · have HJX2 := Lib.hid hJx2
          clear hJx2 hR hy h132 hc132 e0 ek HBX HKB HJB HBB
          gi_wp2
          go_wp2_with fail
          refine bodyPost_ret (results_none rfl _ _ _) rfl ?_
          exact ⟨⟨_, rfl⟩, .inr ⟨M + 1, hMl, HJX2.out⟩⟩
      · have hsb : (s.1 == k) = false := by simpa using hs
        have HMS : Hid ((ofPage k (l.reverse.take (r + 1))).length = M) := Lib.hid (by rw [HS.out, if_neg hs, List.append_nil, HM.out])
        clear hs HA HS
        go_wp2_with fail
        go_roundw
        case rel => exact ⟨r + 1, by omega, by rw [HJ1.out], HBB.out, by rw [HMS.out]; exact HJB.out⟩
        case measure => simp [intOf]
    · obtain rfl : r = l.length := by omega
      have hneg : (l.length : Int) - 1 - l.length = -1 := by omega
      rw [hneg]
      go_wp2_with fail
      go_end0
      refine ⟨⟨_, rfl⟩, .inl ?_⟩
      have := HJ0.out
      rwa [List.take_of_length_le (by simp)] at this
end Go.Proofs.Ytgfmpkcgkjpgnaa
