/-
  ROOTS: Data.
-/
import Derived.Test.YtjnnnnolikbjcaaRt4
import Derived.Test.YtjnnnnolikbjcaaMixP
section
namespace Go.Proofs.Ytjnnnnolikbjcaa
open Go.ChangeShapes Go.WideShapes Go.ChangeAt Go.RowKit Agg Pg Dv
attribute [local go_sem] Oper.semAt_some

theorem bytes_nil (w : World) : Bytes w (.slice none 0 0) [] := ⟨rfl, .inl ⟨rfl, rfl⟩⟩
set_option maxHeartbeats 4000000 in
set_option maxRecDepth 100000 in
theorem rtData_any (r : Rt) (v : Value) (w : World) (hv : RtR w v r) (hw : RtW r) :
    Calls Try.prog 26 #[v] w fun e w' => ∃ u, e = .returned (.tuple #[u, .int .i64 (if rightB r then 0 else 330)]) ∧ Bytes w' u (if rightB r then dataR r else []) ∧ Below w.heap.size w w' := by
  obtain ⟨sl, rfl, hs⟩ := hv.ex
  have HV := Lib.hid hv
  have HC := Lib.hid (fun W h => rtCheck_any r (rtV sl r) W h hw)
  have HD := Lib.hid (fun W h h2 => data_any r (rtV sl r) W h ((right_iff r).1 h2))
  obtain ⟨q, hq⟩ : ∃ q, rightB r = q := ⟨_, rfl⟩
  rw [hq] at HC
  rw [hq]
  have HQ := Lib.hid hq
  have hlen : q = true → (dataR r).length ≤ maxLen := fun h => by
    have := data_120 ((right_iff r).1 (hq.trans h))
    unfold maxLen; omega
  have HL := Lib.hid hlen
  obtain ⟨s, st, L, by'⟩ := r
  unfold rtV at HV HC HD ⊢
  dsimp only at HV HC HD ⊢
  clear hq hlen hs hv hw
  have HB := Lib.hid (Below.refl w.heap.size w)
  go_enter Try.func26, Try.ntmps26
  go_upto_region 1 with (fail)
  refine Agg.wp_at fun w1 hw1 => ?_
  have hb : Below w.heap.size w w1 := by rw [hw1.out]; repeat (first | exact Below.refl _ _ | refine Agg.bel_drew ?_ | refine Agg.bel_alloc ?_ _)
  replace HB := Lib.hid (HB.out.trans (hb.mono HB.out.size))
  replace HV := Lib.hid (HV.out.keep hb)
  clear hb
  have H1 : Hid (Blk w1 w.heap.size 26 [.int .i64 s, .int .u64 (st : Int), sl, .int .i64 by']) := by show Blk _ _ _ _; rw [hw1.out]; exact Blk.new w 26 #[.int .i64 s, .int .u64 (st : Int), sl, .int .i64 by']
  clear hw1
  have h1 := H1.out
  go_wp2_with (refine Agg.gLoadB 4 h1 rfl rfl rfl rfl (by decide +kernel) ?_; simp only [Act.put, List.setIfInBounds_toArray, List.set_cons_succ, List.set_cons_zero])
  clear h1
  refine (HC.out w1 HV.out).mono ?_
  rintro e w2 ⟨rfl, hb⟩
  replace HB := Lib.hid (HB.out.trans (hb.mono HB.out.size))
  replace HV := Lib.hid (HV.out.keep hb)
  replace H1 := Lib.hid (H1.out.keep hb)
  clear hb
  cases q
  · go_wp2_with fail
    go_ret2
    exact ⟨_, rfl, bytes_nil _, HB.out⟩
  · have hsz := HB.out.size
    have h1 := H1.out
    go_wp2_with (refine Agg.gLoadB 4 h1 rfl rfl rfl rfl (by decide +kernel) ?_; simp only [Act.put, List.setIfInBounds_toArray, List.set_cons_succ, List.set_cons_zero])
    clear h1
    refine (HD.out w2 HV.out HQ.out).mono ?_
    rintro e w3 ⟨u, rfl, hu, hb⟩
    replace HB := Lib.hid (HB.out.trans (hb.mono HB.out.size))
    replace HV := Lib.hid (HV.out.keep hb)
    replace H1 := Lib.hid (H1.out.keep hb)
    clear hb
    have HU := Lib.hid (RowN.bytes hu (HL.out (by first | rfl | trivial)))
    clear hu
    go_wp2_with fail
    go_ret2
    exact ⟨_, rfl, HU.out, HB.out⟩
end Go.Proofs.Ytjnnnnolikbjcaa
end
section
/-
  ROOTS: the next number of data.
-/
namespace Agg
open Go Go.RowKit
theorem slR_rest2 {P : Program} {w : World} {t e : TypeId} {sz bytes : Nat} {z : Value} (T : TI P t e sz bytes z) (hsz : 0 < sz) {x : Option Addr} {n cap : Nat} {cs : List Value} (h : SlR w (.slice x n cap) sz n cs) (k : Nat) (hk : k ≤ n) :
    ∃ y c, (∀ w2, (Instr.sliceAt t (.slice x n cap) (some (.int .i64 (k : Int))) none none).run P w2 = .ok (.slice y (n - k) c) w2) ∧ SlR w (.slice y (n - k) c) sz (n - k) (cs.drop (k * sz)) ∧ (Value.slice y (n - k) c).ownBlock = (Value.slice x n cap).ownBlock := by
  obtain ⟨_, _, he, hc1, hcm⟩ := SlR.shape h
  cases he
  obtain ⟨i, hi, hz, hs, hb⟩ := T.info
  have hlen := h.1
  by_cases hn : n = 0
  · subst hn
    have hk0 : k = 0 := by omega
    subst hk0
    have hcs : cs = [] := List.eq_nil_of_length_eq_zero (by rw [hlen]; simp)
    subst hcs
    refine ⟨x, cap, fun w2 => ?_, by simpa using h, rfl⟩
    cases x with
    | none => simp [Instr.sliceAt, Instr.slice, Instr.sliceBounds, Instr.sliceBound, run_underlying T.ht, asIntOf, Go.sizeOf, typeInfo, hi]
    | some a =>
      by_cases hc : cap = 0
      · subst hc; simp [Instr.sliceAt, Instr.slice, Instr.sliceBounds, Instr.sliceBound, run_underlying T.ht, asIntOf, Go.sizeOf, typeInfo, hi]
      · simp [Instr.sliceAt, Instr.slice, Instr.sliceBounds, Instr.sliceBound, run_underlying T.ht, asIntOf, Go.sizeOf, typeInfo, hi, hc, Addr.add]
  · obtain ⟨b, o, cap', hve, _, _, hcp, _⟩ := SlR.pos h hsz (by omega)
    simp only [Value.slice.injEq, true_and] at hve
    obtain ⟨rfl, rfl⟩ := hve
    have hdl : (cs.drop (k * sz)).length = (n - k) * sz := by rw [List.length_drop, hlen, Nat.sub_mul]
    by_cases hc : k < cap
    · refine ⟨_, _, fun w2 => run_slice_from T b o n cap k hk hc w2, ⟨hdl, .inr ⟨_, cap - k, rfl, by omega, by omega, fun j u hj => ?_⟩⟩, rfl⟩
      rw [List.getElem?_drop] at hj
      have h2 := hcp _ _ hj
      rw [add_none, ← h2]
      congr 2; omega
    · have hkc : k = cap := by omega
      have hrc : n = k := by omega
      subst hkc
      subst hrc
      refine ⟨some ⟨b, o, none⟩, 0, fun w2 => ?_, ⟨hdl, .inr ⟨_, 0, by rw [Nat.sub_self], by omega, Nat.zero_le _, fun j u hj => ?_⟩⟩, rfl⟩
      · simp [Instr.sliceAt, Instr.slice, Instr.sliceBounds, Instr.sliceBound, run_underlying T.ht, asIntOf, Go.sizeOf, typeInfo, hi]
      · have := (List.getElem?_eq_some_iff.1 hj).1
        rw [hdl] at this; simp at this
end Agg
namespace Go.Proofs.Ytjnnnnolikbjcaa
open Go.ChangeShapes Go.WideShapes Go.ChangeAt Go.RowKit Agg Pg Dv
attribute [local go_sem] Oper.semAt_some

theorem val_fold (l : List UInt8) : ∀ (n : Int) (m : Nat), 0 ≤ n → n < 256 ^ m → 0 ≤ l.foldl (fun n b => n * 256 + (b.toNat : Int)) n ∧ l.foldl (fun n b => n * 256 + (b.toNat : Int)) n < 256 ^ (m + l.length) := by
  induction l with
  | nil => intro n m h1 h2; exact ⟨h1, h2⟩
  | cons b l ih =>
    intro n m h1 h2
    have hb := b.toNat_lt
    have h3 := ih (n * 256 + (b.toNat : Int)) (m + 1) (by omega) (by rw [Int.pow_succ]; omega)
    rw [List.foldl_cons, List.length_cons, show m + (l.length + 1) = m + 1 + l.length by omega]
    exact h3
theorem valB_nn (l : List UInt8) : 0 ≤ valB l ∧ valB l < 256 ^ l.length := by
  have := val_fold l 0 0 (by decide) (by decide)
  rw [Nat.zero_add] at this
  exact this
theorem valB_24 (l : List UInt8) (h : l.length ≤ 3) : 0 ≤ valB l ∧ valB l < 16777216 := by
  have h1 := valB_nn l
  refine ⟨h1.1, Int.lt_of_lt_of_le h1.2 ?_⟩
  have : l.length = 0 ∨ l.length = 1 ∨ l.length = 2 ∨ l.length = 3 := by omega
  rcases this with e | e | e | e <;> rw [e] <;> decide
theorem or_byte (v : Int) (c : Nat) (h0 : 0 ≤ v) (h1 : v < 16777216) (hc : c < 256) : bits .or .i64 (v * 256) (c : Int) = v * 256 + c := by
  obtain ⟨n, rfl⟩ : ∃ n : Nat, v = n := ⟨v.toNat, by omega⟩
  show IntKind.i64.wrap ((BitVec.ofInt 64 ((n : Int) * 256) ||| BitVec.ofInt 64 (c : Int)).toNat : Int) = _
  rw [BitVec.toNat_or, BitVec.toNat_ofInt, BitVec.toNat_ofInt]
  have e1 : (((n : Int) * 256) % (2 ^ 64 : Nat)).toNat = 2 ^ 8 * n := by
    rw [Int.emod_eq_of_lt (by omega) (by omega)]; omega
  have e2 : ((c : Int) % (2 ^ 64 : Nat)).toNat = c := by
    rw [Int.emod_eq_of_lt (by omega) (by omega)]; omega
  rw [e1, e2, ← Nat.two_pow_add_eq_or_of_lt (by omega), IntKind.wrap_i64]
  omega

set_option maxHeartbeats 4000000 in
set_option maxRecDepth 100000 in
theorem rdTake_any (s : Int) (st : Nat) (px : Option Addr) (pn pc : Nat) (by' : Int) (g : Nat) (lv : Value) (l : List UInt8) (k : Nat) (w : World) (hg : Blk w g 99 [.int .i64 s, .int .u64 (st : Int), .slice px pn pc, .int .i64 by', lv]) (hl : Bytes w lv l) (hk : k ≤ l.length) (hk4 : k ≤ 4) :
    Calls Try.prog 57 #[.pointer (some ⟨g, 0, none⟩), .int .i64 (k : Int)] w fun e w' => e = .returned (.int .i64 (valB (l.take k))) ∧ (∃ lv', Blk w' g 99 [.int .i64 s, .int .u64 (st : Int), .slice px pn pc, .int .i64 by', lv'] ∧ Bytes w' lv' (l.drop k) ∧ lv'.ownBlock = lv.ownBlock) ∧ w.grownBy w' (some g) := by
  have HG := Lib.hid hg
  have HL := Lib.hid hl
  have hgl := hg.lt
  clear hg hl
  have HB := Lib.hid (Below.refl w.heap.size w)
  go_enter Try.func57, Try.ntmps57
  clear HB
  go_wp2_with fail
  go_loopw [7, 5] (fun ix s5 wr => ∃ (j : Nat) (lj : Value), j ≤ k ∧ ix = .int .i64 j ∧ s5 = .int .i64 (valB (l.take j)) ∧ Blk wr g 99 [.int .i64 s, .int .u64 (st : Int), .slice px pn pc, .int .i64 by', lj] ∧ Bytes wr lj (l.drop j) ∧ lj.ownBlock = lv.ownBlock ∧ w.grownBy wr (some g)) (fun ix _ _ => k - (intOf ix).toNat)
  case atStart => exact ⟨0, lv, by omega, rfl, rfl, HG.out, HL.out, rfl, World.grownBy.refl _ _⟩
  case round =>
    obtain ⟨j, lj, hj, rfl, rfl, hb, hl, hob, hgr⟩ := hrel
    have HOB := Lib.hid hob
    clear hob
    obtain ⟨wA, hwA⟩ : ∃ x, x = wr := ⟨_, rfl⟩
    subst hwA
    by_cases hlt : j < k
    · obtain ⟨x, c, rfl, _, _⟩ := SlR.shape hl
      have hdl : (l.drop j).length = l.length - j := List.length_drop
      have hn1 : 1 ≤ (l.drop j).length := by omega
      obtain ⟨y, c2, hrs, hrest, hyb⟩ := slR_rest2 ti25 (by decide) (show SlR wA (.slice x (l.drop j).length c) 1 (l.drop j).length (bv (l.drop j)) from hl) 1 hn1
      obtain ⟨b, o, cap', hve, _, _, hcm, _⟩ := SlR.pos hl (by decide) (by omega)
      injection hve with q1 q2 q3
      subst q1
      clear q2 q3
      have hjl : j < l.length := by omega
      obtain ⟨a, ha⟩ : ∃ a, l[j] = a := ⟨_, rfl⟩
      have hdr : l.drop j = a :: l.drop (j + 1) := by rw [← ha]; exact List.drop_eq_getElem_cons hjl
      have hcell : wA.cell? ⟨b, o, none⟩ = some (.int .u8 (a.toNat : Int)) := by simpa using hcm 0 _ (by rw [hdr]; rfl)
      have hsuc : valB (l.take (j + 1)) = valB (l.take j) * 256 + a.toNat := by rw [List.take_succ_eq_append_getElem hjl, ha, val_snoc]
      have hv := valB_24 (l.take j) (by rw [List.length_take]; omega)
      have ha8 := a.toNat_lt
      have hor := or_byte (valB (l.take j)) a.toNat hv.1 hv.2 (by omega)
      obtain ⟨n0, hn0⟩ : ∃ n, valB (l.take j) = n := ⟨_, rfl⟩
      rw [hn0] at hsuc hv hor
      rw [hn0]
      have HSU := Lib.hid hsuc
      have hrest2 : SlR wA (.slice y ((l.drop j).length - 1) c2) 1 (l.drop (j + 1)).length (bv (l.drop (j + 1))) := by
        have e : (bv (l.drop j)).drop (1 * 1) = bv (l.drop (j + 1)) := by rw [hdr]; rfl
        rw [e] at hrest
        rw [hdr] at hrest ⊢
        exact hrest
      have HRS := Lib.hid hrs
      have HYB := Lib.hid (hyb.trans HOB.out)
      clear hyb
      have HR2 := Lib.hid hrest2
      have HBB := Lib.hid hb
      have HGR := Lib.hid hgr
      have c4 := hb.cell 4
      simp only [List.getElem?_cons_zero, List.getElem?_cons_succ] at c4
      obtain ⟨m, hm⟩ : ∃ m, (l.drop j).length = m := ⟨_, rfl⟩
      rw [hm] at HRS HR2 HBB c4 hn1 HYB
      have hmm : m - 1 = (l.drop (j + 1)).length := by rw [← hm, hdr]; rfl
      have HMM := Lib.hid hmm
      have hg5 := HBB.out
      clear hsuc hn0 ha hdr hcm hrs hrest hrest2 hl hgr hdl hb hm hmm
      have hrs := HRS.out
      go_wp2_with (first
        | (refine Agg.gSliceFrom (.slice y (m - 1) c2) rfl rfl rfl rfl hrs ?_)
        | (refine Agg.gStoreCell 4 (.slice y (m - 1) c2) hg5 rfl rfl rfl rfl rfl (by kernel_rfl) rfl (by simp) rfl (fun w5 hb5 hg6 => ?_)))
      have hst5 : spliced [.int .i64 s, .int .u64 (st : Int), .slice px pn pc, .int .i64 by', .slice (some ⟨b, o, none⟩) m c] 4 [.slice y (m - 1) c2] = [.int .i64 s, .int .u64 (st : Int), .slice px pn pc, .int .i64 by', .slice y (m - 1) c2] := rfl
      rw [hst5] at hb5
      have hbytes : Bytes w5 (.slice y (m - 1) c2) (l.drop (j + 1)) := by
        have h := HR2.out
        rw [HMM.out] at h ⊢
        exact Bytes.far (w := wA) h HBB.out (fun i z => by
          match i with
          | 0 => simp
          | 1 => simp
          | 2 => simp
          | 3 => simp
          | 4 => simp
          | n + 5 => simp) hg6
      exact ⟨⟨j + 1, _, by omega, by go_num, by rw [HSU.out], hb5, hbytes, HYB.out, grown_trans HGR.out hg6⟩, by simp [intOf]; omega⟩
    · obtain rfl : j = k := by omega
      have HBB := Lib.hid hb
      have HLL := Lib.hid hl
      have HGR := Lib.hid hgr
      clear hb hl hgr
      go_wp2_with fail
      go_ret
      exact ⟨rfl, ⟨_, HBB.out, HLL.out, HOB.out⟩, HGR.out⟩
end Go.Proofs.Ytjnnnnolikbjcaa
end
