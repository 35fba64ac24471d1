/-
  DEVICES: sectors of a write settle in its page.
-/
import Derived.Laws.Tables
import Derived.Great.FillDense
import Derived.Great.BuildSlice
import Derived.Test.YtjnnnnolikbjcaaMixP
import Derived.Test.YtjnnnnolikbjcaaChain2
import Derived.Test.YtjnnnnolikbjcaaRow
section
namespace Dv
open Go Go.RowKit Agg Pg
/-- pages, one of them other -/
theorem pgs_cut (P : List (List Sec)) (p : Nat) (h : p < P.length) : P.flatMap blkC = (P.take p).flatMap blkC ++ (blkC P[p] ++ (P.drop (p + 1)).flatMap blkC) := by
  have e : P = P.take p ++ (P[p] :: P.drop (p + 1)) := by rw [List.getElem_cons_drop]; exact (List.take_append_drop p P).symm
  conv => lhs; rw [e]
  rw [List.flatMap_append, List.flatMap_cons]
theorem spliced_app (a b d : List Value) (n : Nat) : spliced (a ++ b) (a.length + n) d = a ++ spliced b n d := by
  unfold spliced
  rw [List.take_append, List.take_of_length_le (by omega), Nat.add_assoc, List.drop_append, List.drop_eq_nil_of_le (by omega)]
  simp
theorem pgs_set (P : List (List Sec)) (hP : ∀ b ∈ P, BOk b) (p : Nat) (h : p < P.length) (k : Nat) (hk : k < 4) (s : Sec) (hs : s.2.length = 32) (r : List Value) :
    spliced (P.flatMap blkC ++ r) (p * 132 + k * 33) (secC s) = (P.set p (P[p].set k s)).flatMap blkC ++ r := by
  have hb := hP _ (List.getElem_mem h)
  have hl : ((P.take p).flatMap blkC).length = p * 132 := by rw [flat_len blkC 132 _ (fun b hb => bok_cells (hP b (List.mem_of_mem_take hb))), List.length_take]; congr 1; omega
  have e2 : P.set p (P[p].set k s) = P.take p ++ (P[p].set k s :: P.drop (p + 1)) := by rw [List.set_eq_take_append_cons_drop, if_pos h]
  have e3 := blkC_set P[p] hb.len k (by rw [hb.1]; exact hk) s hs ((P.drop (p + 1)).flatMap blkC ++ r)
  rw [pgs_cut P p h, e2, List.flatMap_append, List.flatMap_cons]
  simp only [List.append_assoc]
  rw [← e3, ← hl, spliced_app]
theorem below_grownBy {w w' : World} (h : Below w.heap.size w w') (row : Option Nat) : w.grownBy w' row := ⟨h.os, h.tape, h.output, h.size, fun k hk _ => h.block k hk⟩
theorem set_bok {P : List (List Sec)} (hP : ∀ b ∈ P, BOk b) (p : Nat) {b : List Sec} (hb : BOk b) : ∀ x ∈ P.set p b, BOk x := by
  intro x hx
  rcases List.mem_or_eq_of_mem_set hx with h | h
  · exact hP x h
  · rw [h]; exact hb
theorem mixTo_bok {old new : List Sec} (ho : BOk old) (hn : BOk new) (mask : Int) (k : Nat) : BOk (mixTo old new mask k) :=
  ⟨mixTo_length _ _ _ _, fun s hs => (mixTo_mem old new ho.1 hn.1 mask k s hs).elim (ho.2 s) (hn.2 s)⟩
/-- an own row as a block -/
theorem own_blk {w : World} {base : Nat} {e : TypeId} {sz g n cap : Nat} {xs : List Value} (h : w.ownsRow base e sz (.slice (some ⟨g, 0, none⟩) n cap) n xs) : ∃ r, Blk w g e (xs ++ r) ∧ base ≤ g ∧ n ≤ cap ∧ cap ≤ maxLen ∧ (xs ++ r).length = cap * sz := by
  rcases h.2 with ⟨h1, _⟩ | ⟨g', cap', cur, h1, h2, h3, h4, h5, h6, h7⟩
  · cases h1
  · cases h1
    refine ⟨cur.toList.drop (n * sz), ?_, h2, h4, h5, ?_⟩
    · have hx : xs = cur.toList.take (n * sz) := by rw [← h7]
      rw [hx, List.take_append_drop]; exact h3
    · have hx : xs = cur.toList.take (n * sz) := by rw [← h7]
      rw [hx, List.take_append_drop]; simpa using h6
theorem blk_own {w : World} {base : Nat} {e : TypeId} {sz g n cap : Nat} {xs r : List Value} (h : Blk w g e (xs ++ r)) (hb : base ≤ g) (h4 : n ≤ cap) (h5 : cap ≤ maxLen) (h6 : (xs ++ r).length = cap * sz) (hx : xs.length = n * sz) : w.ownsRow base e sz (.slice (some ⟨g, 0, none⟩) n cap) n xs := by
  refine ⟨hx, .inr ⟨g, cap, (xs ++ r).toArray, rfl, hb, h, h4, h5, by simpa using h6, ?_⟩⟩
  simp [← hx]
end Dv
namespace Go.Proofs.Ytjnnnnolikbjcaa
open Go.ChangeShapes Go.WideShapes Go.ChangeAt Go.RowKit Agg Pg Dv

theorem aiBl : AI Try.prog 38 36 4 33 := ⟨by kernel_rfl, by kernel_rfl⟩
set_option maxHeartbeats 4000000 in
set_option maxRecDepth 100000 in
theorem settles_any (P : List (List Sec)) (r : List Value) (page : Int) (b : List Sec) (p : Nat) (hx : page = p) (hp : p < P.length) (hP : ∀ b ∈ P, BOk b) (hb : BOk b) (mask : Int) (T E : TypeId) (t g cap : Nat) (c z o : Value) (w : World)
    (HT : Blk w t T [.slice (some ⟨g, 0, none⟩) P.length cap, c, z, o]) (HG : Blk w g E (P.flatMap blkC ++ r)) (htg : t ≠ g) (hc : (P.length : Int) ≤ 1000000) :
    Calls Try.prog 47 #[.pointer (some ⟨t, 0, none⟩), .agg (wrC (page, b)).toArray, .int .i64 mask] w fun e w' => (∃ v, e = .returned v) ∧ Blk w' g E ((P.set p (mixB P[p] b mask)).flatMap blkC ++ r) ∧ w.grownBy w' (some g) := by
  subst hx
  obtain ⟨old, hold⟩ : ∃ b, P[p] = b := ⟨_, rfl⟩
  have HOB : Hid (BOk old) := Lib.hid (by rw [← hold]; exact hP _ (List.getElem_mem hp))
  have HNB := Lib.hid hb
  have HPB := Lib.hid hP
  have HOLD := Lib.hid hold
  have HTG := Lib.hid htg
  have HT0 := Lib.hid HT
  have HG0 := Lib.hid HG
  have HGL := HG.lt
  have HP0 : Hid (P.set p (mixTo old b mask 0) = P) := Lib.hid (by rw [mixTo_zero _ _ HOB.out.1, ← hold]; exact List.set_getElem_self hp)
  rw [hold]
  clear hP hb hold htg HT HG
  have HB := Lib.hid (Below.refl w.heap.size w)
  go_enter Try.func47, Try.ntmps47
  have hpn : (p : Int) < P.length := by omega
  have hbx := Blk.new w 88 (wrC ((p : Int), b)).toArray
  go_wp2_with fail
  have HBX := Lib.hid hbx
  clear hbx
  go_loopw [7, 6] (fun i j wr => ∃ k : Nat, k ≤ 4 ∧ i = .int .i64 k ∧ w.grownBy wr (some g) ∧ Blk wr g E ((P.set p (mixTo old b mask k)).flatMap blkC ++ r) ∧ Blk wr w.heap.size 88 (wrC ((p : Int), b)) ∧ Blk wr t T [.slice (some ⟨g, 0, none⟩) P.length cap, c, z, o]) (fun i _ _ => 4 - (intOf i).toNat)
  case atStart =>
    refine ⟨0, by omega, rfl, ?_, ?_, HBX.out, HT0.out.al _⟩
    · exact ⟨rfl, rfl, rfl, by simp, fun k hk _ => Below.heap_alloc _ _ _ hk⟩
    · rw [HP0.out]; exact HG0.out.al _
  case round =>
    obtain ⟨k, hk, rfl, hg, hq1, hq2, hq3⟩ := hrel
    have HGR := Lib.hid hg
    have HM := Lib.hid hq1
    have HW := Lib.hid hq2
    have HT := Lib.hid hq3
    clear hg hq1 hq2 hq3
    obtain ⟨wA, hwA⟩ : ∃ x, x = wr := ⟨_, rfl⟩
    subst hwA
    by_cases hlt : k < 4
    · have hsh := run_shr_i64 (P := Try.prog) 3 mask k (by omega)
      have hlo := low_int (mask / 2 ^ k)
      have HY := Lib.hid (mixTo_yes old b HNB.out.1 mask k hlt)
      have HNO := Lib.hid (mixTo_no old b mask k)
      by_cases hq : mask / 2 ^ k % 2 = 1
      · have hqb : (mask / 2 ^ k % 2 == 1) = true := by simp [hq]
        have hkn : k < b.length := by rw [HNB.out.1]; exact hlt
        have hc33 := blkC_sec b HNB.out.len k hkn []
        rw [List.append_nil] at hc33
        have h33 := secC_length _ (HNB.out.len _ (List.getElem_mem hkn))
        have HCS : Hid (∀ i v, (secC b[k])[i]? = some v → wA.cell? ⟨w.heap.size, 0 + 1 + k * 33 + i, none⟩ = some v) := by
          refine Lib.hid (fun i v hi => ?_)
          rw [HW.out.cell, show 0 + 1 + k * 33 + i = (k * 33 + i) + 1 by omega]
          have : i < 33 := by have := (List.getElem?_eq_some_iff.1 hi).1; omega
          rw [← hc33, List.getElem?_take_of_lt this, List.getElem?_drop] at hi
          exact hi
        have h1 := secC_one b[k]
        have hmb := mixTo_bok HOB.out HNB.out mask k
        have hset := pgs_set (P.set p (mixTo old b mask k)) (set_bok HPB.out p hmb) p (by rw [List.length_set]; exact hp) k hlt b[k] (HNB.out.len _ (List.getElem_mem hkn)) r
        rw [List.getElem_set_self, List.set_set, HY.out hq] at hset
        have hfit : p * 132 + k * 33 + 33 ≤ ((P.set p (mixTo old b mask k)).flatMap blkC ++ r).length := by
          rw [List.length_append, flat_len blkC 132 _ (fun b hb => bok_cells (set_bok HPB.out p hmb b hb)), List.length_set]
          have : (p + 1) * 132 ≤ P.length * 132 := Nat.mul_le_mul_right _ hp
          omega
        have hm := HM.out
        have H33 := Lib.hid h33
        generalize b[k] = s at *
        clear hq hc33 hmb
        have xHT_0 := HT.out.cell 0
        have xHT_1 := HT.out.cell 1
        have xHT_2 := HT.out.cell 2
        have xHT_3 := HT.out.cell 3
        have lHT := HT.out.lt
        simp only [List.getElem?_cons_zero, List.getElem?_cons_succ] at xHT_0 xHT_1 xHT_2 xHT_3
        go_upto_region 5 with (fail)
        refine Agg.chainR 14 (by kernel_rfl) (by kernel_rfl) ?_
        simp only [List.take_succ_cons, List.take_zero, List.drop_succ_cons, List.drop_zero]
        refine Agg.chMove rfl rfl rfl rfl ?_
        refine Agg.chNil rfl rfl rfl rfl ?_
        refine Agg.chFA fo_fo_Tu_0 rfl rfl rfl rfl ?_
        refine Agg.chFA fo_fo_Dev_0 rfl rfl rfl rfl ?_
        refine Agg.chLoadB HT.out (by decide +kernel) rfl rfl (by rfl) rfl rfl ?_
        refine Agg.chFA fo_fo_Wr_0 rfl rfl rfl rfl ?_
        refine Agg.chLoadB HW.out (by decide +kernel) rfl rfl (by rfl) rfl rfl ?_
        refine Agg.chMove rfl rfl rfl rfl ?_
        refine Agg.chMove rfl rfl rfl rfl ?_
        refine Agg.chFA fo_fo_Wr_1 rfl rfl rfl rfl ?_
        refine Agg.chIAA aiBl (by omega) (by omega) rfl rfl rfl rfl rfl ?_
        refine Agg.chRowAt 33 (secC s) H33.out (by decide +kernel) rfl rfl rfl rfl (by rw [Int.toNat_natCast]; exact HCS.out) ?_
        refine Agg.chIA tiBl (by omega) (by omega) rfl rfl rfl rfl rfl ?_
        refine Agg.chIAA aiBl (by omega) (by omega) rfl rfl rfl rfl rfl ?_
        refine Agg.chEnd ?_
        intro vs w11 hb hf
        simp only [List.reverse, List.reverseAux, Agg.Facts] at hf
        obtain _ := hf
        simp only [List.reverse, List.reverseAux, Agg.fill, List.set_cons_succ, List.set_cons_zero]
        simp only [Nat.zero_add, Int.toNat_natCast]
        refine Agg.gStoreMid 33 (p * 132 + k * 33) (secC s) (hm.keep hb) rfl rfl rfl rfl rfl (by decide +kernel) H33.out hfit h1 (fun w12 hb12 hg12 => ?_)
        rw [hset] at hb12
        have hgA := (HGR.out.trans (below_grownBy hb (some g))).trans hg12
        have hwA := (HW.out.keep hb).far' hg12 (by omega)
        have htA := (HT.out.keep hb).far' hg12 HTG.out
        refine Agg.wpNil ?_
        clear hset hfit h1 hm hg12 hb HM HGR HW HT hsh hlo
        go_wp2_with fail
        go_roundw
        case rel => exact ⟨k + 1, by omega, by go_num, hgA, hb12, hwA, htA⟩
        case measure => simp [intOf]; omega
      · have hqb : (mask / 2 ^ k % 2 == 1) = false := by simpa using hq
        clear hpn hk
        go_wp2_with fail
        go_roundw
        case rel => exact ⟨k + 1, by omega, by go_num, HGR.out, by rw [← HNO.out hq]; exact HM.out, HW.out, HT.out⟩
        case measure => simp [intOf]; omega
    · obtain rfl : k = 4 := by omega
      have HMA := Lib.hid (mixTo_all old b mask)
      go_wp2_with fail
      go_end0
      exact ⟨⟨_, rfl⟩, by rw [← HMA.out]; exact HM.out, HGR.out⟩
end Go.Proofs.Ytjnnnnolikbjcaa
end
section
/-
  DEVICES: a device of its own; what the closures do: Light's.
-/
namespace Go.Proofs.Ytjnnnnolikbjcaa
open Go.ChangeShapes Go.WideShapes Go.ChangeAt Go.RowKit Agg Pg Dv

/-- what the closures do: the error, the device -/
def lightP (d : Dev) (n : Int) : Int × Dev := if 0 ≤ n ∧ n ≤ 10000 then (0, { d with fuse := n }) else (2, d)
def burnD (d : Dev) : Dev := { d with fuse := (burnF d.fuse d.off).1, off := (burnF d.fuse d.off).2 }
def putP (d : Dev) (page : Int) (b : List Sec) : Int × Dev :=
  if thereB d.pages.length page = false then (4, d) else if (burnD d).off then (10, burnD d) else (0, { burnD d with cache := d.cache ++ [(page, b)] })
/-- a write settles, as far as a mask lets it -/
def settle (P : List (List Sec)) (x : Int × List Sec) (mask : Int) : List (List Sec) := P.set x.1.toNat (mixB (P.getD x.1.toNat zeroB) x.2 mask)
def settleAll (P : List (List Sec)) (l : List (Int × List Sec)) : List (List Sec) := l.foldl (fun P x => settle P x 15) P
def flushP (d : Dev) : Int × Dev := if (burnD d).off then (10, burnD d) else (0, { burnD d with pages := settleAll d.pages d.cache, cache := [] })
def dev0 : Dev := ⟨[], [], 0, false⟩
/-- something is done with a copy of a device whose power is on -/
def goesP (d : Dev) (r : Int × Dev) : Int × Dev := if rightD d = false then (260, dev0) else if d.off then (10, d) else if r.1 ≠ 0 ∧ r.1 ≠ 10 then (r.1, dev0) else r
/-- a device of its own: its rows lie beyond a block -/
def DevO (base : Nat) (w : World) (v : Value) (d : Dev) : Prop := ∃ p c, v = .agg #[p, c, .int .i64 d.fuse, .bool d.off] ∧ w.ownsRow base 38 132 p d.pages.length (d.pages.flatMap blkC) ∧ w.ownsRow base 88 133 c d.cache.length (d.cache.flatMap wrC)
/-- .. turning -/
def TurnO (base : Nat) (w : World) (t : Nat) (d : Dev) : Prop := ∃ p c, base ≤ t ∧ Blk w t 85 [p, c, .int .i64 d.fuse, .bool d.off] ∧ w.ownsRow base 38 132 p d.pages.length (d.pages.flatMap blkC) ∧ w.ownsRow base 88 133 c d.cache.length (d.cache.flatMap wrC)
theorem DevO.keep {base : Nat} {w w' : World} {v : Value} {d : Dev} (h : DevO base w v d) (hb : Below w.heap.size w w') : DevO base w' v d := by
  obtain ⟨p, c, h1, h2, h3⟩ := h
  exact ⟨p, c, h1, own_keep h2 hb, own_keep h3 hb⟩
theorem DevO.base {base base' : Nat} {w : World} {v : Value} {d : Dev} (h : DevO base w v d) (hb : base' ≤ base) : DevO base' w v d := by
  obtain ⟨p, c, h1, h2, h3⟩ := h
  exact ⟨p, c, h1, own_base h2 hb, own_base h3 hb⟩
theorem TurnO.keep {base : Nat} {w w' : World} {t : Nat} {d : Dev} (h : TurnO base w t d) (hb : Below w.heap.size w w') : TurnO base w' t d := by
  obtain ⟨p, c, h0, h1, h2, h3⟩ := h
  exact ⟨p, c, h0, h1.keep hb, own_keep h2 hb, own_keep h3 hb⟩
theorem devO_zero (base : Nat) (w : World) : DevO base w (.agg #[.slice none 0 0, .slice none 0 0, .int .i64 0, .bool false]) dev0 := ⟨_, _, rfl, World.ownsRow_nil _ _ _ _, World.ownsRow_nil _ _ _ _⟩
/-- a block of another type is not a row's -/
theorem own_apart {w : World} {base : Nat} {e T : TypeId} {sz n t : Nat} {v : Value} {xs cs : List Value} (h : w.ownsRow base e sz v n xs) (hb : Blk w t T cs) (hne : e ≠ T) : v.ownBlock = none ∨ v.ownBlock ≠ some t := by
  rcases h.2 with ⟨rfl, _⟩ | ⟨g, cap, cur, rfl, _, h3, _⟩
  · exact .inl rfl
  · refine .inr (fun e2 => ?_)
    have : g = t := by simpa [Value.ownBlock] using e2
    subst this
    rw [hb] at h3
    cases h3
    exact hne rfl
theorem bTne : 38 ≠ 85 := by decide
theorem wTne : 88 ≠ 85 := by decide
end Go.Proofs.Ytjnnnnolikbjcaa
end
section
/-
  BUILDING A STRUCT of all its fields, each a part of any size: its cells are the parts' cells, one behind the other. Over any program.
-/
namespace Agg
open Go Go.RowKit
/-- the fields' places (where, how many cells), and how many cells the struct has -/
def placesOf (P : Program) (t : TypeId) : Option (List (Nat × Nat) × Nat) :=
  match P.info? t, P.underlying t with
  | some it, some (.struct fields) =>
    match it.zero, fields.toList.mapM (fun f => (P.info? f.type).map fun i => (f.offset, i.size)) with
    | some z, some places => some (places, z.cells.size)
    | _, _ => none
  | _, _ => none
/-- places side by side, from off on -/
def sideBy : Nat → List (Nat × Nat) → Bool
  | _, [] => true
  | off, (o, s) :: r => (o == off) && sideBy (off + s) r
theorem fold_mid (l done rest : List Value) (h : l.length ≤ rest.length) : ((l.zipIdx 0).foldl (fun cs (x : Value × Nat) => cs.setIfInBounds (done.length + x.2) x.1) (done ++ rest).toArray) = (done ++ l ++ rest.drop l.length).toArray := by
  obtain ⟨h1, h2⟩ := Go.Great.foldl_set done.length l 0 (done ++ rest).toArray
  apply Array.ext_getElem?
  intro k
  rw [h2 k]
  simp only [Nat.add_zero, List.size_toArray, List.length_append, List.getElem?_toArray]
  by_cases hA : done.length ≤ k ∧ k < done.length + l.length ∧ k < done.length + rest.length
  · rw [if_pos hA, List.append_assoc, List.getElem?_append_right hA.1, List.getElem?_append_left (by omega)]
  · rw [if_neg hA]
    by_cases hB : k < done.length
    · rw [List.getElem?_append_left hB, List.append_assoc, List.getElem?_append_left hB]
    · rw [List.getElem?_append_right (by omega), List.getElem?_append_right (by simp; omega), List.getElem?_drop]
      congr 1
      simp; omega
theorem fill_seq (place : Nat → Option (Nat × Nat)) : ∀ (vs : List Value) (i0 : Nat) (pl : List (Nat × Nat)) (done rest : List Value), (∀ i x, pl[i]? = some x → place (i0 + i) = some x) → vs.map (fun v => v.cells.size) = pl.map (·.2) → sideBy done.length pl = true → (vs.flatMap fun v => v.cells.toList).length ≤ rest.length →
    Instr.fill place (done ++ rest).toArray ((vs.zipIdx i0).map fun x => (x.2, x.1)) = some (done ++ (vs.flatMap fun v => v.cells.toList) ++ rest.drop (vs.flatMap fun v => v.cells.toList).length).toArray
  | [], _, _, done, rest, _, _, _, _ => by simp [Instr.fill]
  | v :: vs, i0, [], done, rest, _, h2, _, _ => by simp at h2
  | v :: vs, i0, (o, s) :: pl, done, rest, h1, h2, h3, h4 => by
    simp only [List.map_cons, List.cons.injEq] at h2
    simp only [sideBy, Bool.and_eq_true, beq_iff_eq] at h3
    obtain ⟨rfl, h3⟩ := h3
    obtain ⟨h2a, h2b⟩ := h2
    simp only [List.flatMap_cons, List.length_append, Array.length_toList] at h4
    have hp := h1 0 (done.length, s) rfl
    rw [Nat.add_zero] at hp
    simp only [List.zipIdx_cons, List.map_cons]
    unfold Instr.fill
    simp only [hp, h2a, ne_eq, not_true, List.size_toArray, List.length_append]
    rw [if_neg (by simp; omega)]
    have hf := fold_mid v.cells.toList done rest (by simp; omega)
    rw [← Array.foldl_toList, Array.toList_zipIdx, hf]
    have ih := fill_seq place vs (i0 + 1) pl (done ++ v.cells.toList) (rest.drop v.cells.toList.length) (fun i x hx => by
      have := h1 (i + 1) x (by simpa using hx)
      rwa [Nat.add_assoc, Nat.add_comm 1 i]) h2b (by rw [List.length_append, show v.cells.toList.length = s by rw [Array.length_toList]; exact h2a]; exact h3) (by rw [List.length_drop, Array.length_toList]; exact Nat.le_sub_of_add_le (by rw [Nat.add_comm]; exact h4))
    rw [ih]
    simp [List.append_assoc]
theorem run_build_seq {P : Program} {t : TypeId} {pl : List (Nat × Nat)} {N : Nat} (hp : placesOf P t = some (pl, N)) (hs : sideBy 0 pl = true) (vs : List Value) (hv : vs.map (fun v => v.cells.size) = pl.map (·.2)) (hn : (vs.flatMap fun v => v.cells.toList).length = N) (w : World) :
    (Instr.build t ((vs.zipIdx 0).map fun x => (x.2, x.1)).toArray).run P w = .ok (.agg (vs.flatMap fun v => v.cells.toList).toArray) w := by
  refine run_build w t _ _ ?_
  unfold placesOf at hp
  unfold Program.built
  cases hit : P.info? t with
  | none => simp [hit] at hp
  | some it =>
    cases hu : P.underlying t with
    | none => simp [hit, hu] at hp
    | some d =>
      cases d <;> try (simp [hit, hu] at hp; done)
      case struct fields =>
        simp only [hit, hu] at hp ⊢
        cases hz : it.zero with
        | none => simp [hz] at hp
        | some z =>
          simp only [hz] at hp ⊢
          cases hm : fields.toList.mapM (fun f => (P.info? f.type).map fun i => (f.offset, i.size)) with
          | none => simp [hm] at hp
          | some places =>
            simp only [hm, Option.some.injEq, Prod.mk.injEq] at hp ⊢
            obtain ⟨rfl, hN⟩ := hp
            have h := fill_seq (fun i => places.toArray[i]?) vs 0 places [] z.cells.toList (fun i x hx => by simpa using hx) hv hs (by rw [hn, Array.length_toList, hN]; exact Nat.le_refl _)
            simp only [List.nil_append, Array.toArray_toList] at h
            rw [List.drop_eq_nil_of_le (by rw [hn, Array.length_toList, hN]; exact Nat.le_refl _), List.append_nil] at h
            exact h
end Agg
end
section
/-
  ROWS OF ROWS THAT ARE WRITTEN OUT ([]T{a, b}): what comes to memory. Over any program.
-/
namespace Agg
open Go Go.RowKit

theorem flat_cells (css : List (List Value)) : (css.map fun cs => Value.agg cs.toArray).flatMap (fun v => v.cells.toList) = css.flatten := by
  induction css with
  | nil => rfl
  | cons c r ih => rw [List.map_cons, List.flatMap_cons, ih, List.flatten_cons]; simp [Value.cells]
theorem run_buildRows {P : Program} {t e : TypeId} {size bytes : Nat} {z : Value} (T : TI P t e size bytes z) (css : List (List Value)) (hl : ∀ c ∈ css, c.length = size) (hn : 0 < css.length) (hs : css.length * size ≤ 16777216) (w : World) :
    (Instr.buildSlice t css.length (((css.map fun cs => Value.agg cs.toArray).zipIdx 0).map fun x => (x.2, x.1)).toArray).run P w = .ok (.slice (some ⟨w.heap.size, 0, none⟩) css.length css.length) (w.alloc (.cells css.flatten.toArray e)) := by
  obtain ⟨i, hi, hz, hsz, _⟩ := T.info
  have hpos : 0 < css.length * size := Nat.mul_pos hn T.hsz
  refine run_buildSlice w t e css.length _ css.flatten.toArray i z T.ht hi hz (by rw [hsz]; omega) (by rw [hsz]; omega) ?_
  rw [hsz]
  have h := Go.Great.fill_whole T.hsz (css.map fun cs => Value.agg cs.toArray) ((Array.range (css.length * size)).map (z.cells[· % z.cells.size]!)) (fun v hv => by
    obtain ⟨c, hc, rfl⟩ := List.mem_map.1 hv
    simp [Value.cells, hl c hc]) (by simp)
  rw [flat_cells] at h
  exact h
theorem gBuildRows {P : Program} {w : World} {o : Oper} {Q : Exit → Act → World → Prop} {ops : Array Oper} {rest : List Oper} {a : Act} {t e : TypeId} {size bytes : Nat} {z : Value} (T : TI P t e size bytes z) (xs : List Operand) (css : List (List Value)) (hg : o.guard = none) (n : Nat)
    (ho : o.op = .buildSlice t n ((xs.zipIdx 0).map fun x => (x.2, x.1)).toArray) (hx : xs.map a.eval = css.map fun cs => Value.agg cs.toArray) (hc : css.length = n) (hl : ∀ c ∈ css, c.length = size) (hn : 0 < n) (hs : n * size ≤ 16777216)
    (h : wpList P ops Q rest (a.put o.dst (.slice (some ⟨w.heap.size, 0, none⟩) n n)) (w.alloc (.cells css.flatten.toArray e))) : wpList P ops Q (o :: rest) a w := by
  subst hc
  refine run hg _ _ ?_ h
  have h3 : ((((xs.zipIdx 0).map fun x => (x.2, x.1)).toArray).map fun (i, x) => (i, a.eval x)) = (((css.map fun cs => Value.agg cs.toArray).zipIdx 0).map fun x => (x.2, x.1)).toArray := by
    rw [← hx, List.map_toArray, List.zipIdx_map, List.map_map, List.map_map]; rfl
  simp only [execOp, ho, h3, Sem.run_bind, run_buildRows T css hl hn hs w, Result.andThen_ok, Sem.run_pure]
end Agg
end
section
/-
  DEVICES: Put's closure.
-/
namespace Go.Proofs.Ytjnnnnolikbjcaa
open Go.ChangeShapes Go.WideShapes Go.ChangeAt Go.RowKit Agg Pg Dv

theorem blk_row {w w' : World} {t : Nat} {T : TypeId} {cs : List Value} {row : Option Nat} (h : Blk w t T cs) (hg : w.grownBy w' row) (hne : row = none ∨ row ≠ some t) : Blk w' t T cs :=
  (hg.block _ h.lt (hne.elim (fun e => by rw [e]; simp) (fun e e2 => e e2.symm))).trans h
theorem build_wr (k : Int) (b : List Sec) (hb : BOk b) (w : World) : (Instr.build 88 #[(0, .int .i64 k), (1, .agg (blkC b).toArray)]).run Try.prog w = .ok (.agg (wrC (k, b)).toArray) w := by
  have h := run_build_seq (P := Try.prog) (t := 88) (pl := [(0, 1), (1, 132)]) (N := 133) (by kernel_rfl) rfl [.int .i64 k, .agg (blkC b).toArray] (by simp [Value.cells, bok_cells hb]) (by simp [Value.cells, bok_cells hb]) w
  simpa [Value.cells, wrC] using h
theorem lit_wr (k : Int) (b : List Sec) (hb : BOk b) (w : World) : (Instr.buildSlice 28 1 #[(0, .agg (wrC (k, b)).toArray)]).run Try.prog w = .ok (.slice (some ⟨w.heap.size, 0, none⟩) 1 1) (w.alloc (.cells (wrC (k, b)).toArray 88)) := by
  have h := run_buildRows tiW [wrC (k, b)] (by simpa using wrC_length _ hb) (by simp) (by simp) w
  simpa using h
set_option maxHeartbeats 4000000 in
set_option maxRecDepth 100000 in
theorem putC_any (d : Dev) (k : Int) (b : List Sec) (hb : BOk b) (base t kn bn : Nat) (w : World) (hd1 : d.pages.length ≤ 1000000) (hd2 : d.cache.length ≤ 1000000) (hz1 : -1 ≤ d.fuse) (hz2 : d.fuse ≤ 10000) (HT : TurnO base w t d) (HN : Blk w kn 3 [.int .i64 k]) (HB : Blk w bn 38 (blkC b)) (hkn : kn < base) (hbn : bn < base) :
    Calls Try.prog 60 #[.pointer (some ⟨t, 0, none⟩), .pointer (some ⟨kn, 0, none⟩), .pointer (some ⟨bn, 0, none⟩)] w fun e w' => e = .returned (.int .i64 (putP d k b).1) ∧ TurnO base w' t (putP d k b).2 ∧ Below base w w' := by
  obtain ⟨P, l, z, q⟩ := d
  obtain ⟨p, c, hbt, H1, HP, HC⟩ := HT
  obtain ⟨px, pc, rfl, hpl, hpc⟩ := (ownSl HP).shape
  obtain ⟨cx, cc, rfl, hcl, hcc⟩ := (ownSl HC).shape
  have HT1 := Lib.hid H1
  have HP := Lib.hid HP
  have HC := Lib.hid HC
  have HKN := Lib.hid HN
  have HBN := Lib.hid HB
  have hlt := H1.lt
  have hbw : base ≤ w.heap.size := by omega
  obtain ⟨r, hr⟩ : ∃ r, putP ⟨P, l, z, q⟩ k b = r := ⟨_, rfl⟩
  rw [hr]
  have HR := Lib.hid hr
  have HD1 := Lib.hid hd1
  have HD2 := Lib.hid hd2
  have HZ := Lib.hid (And.intro hz1 hz2)
  have HBO := Lib.hid hb
  clear H1 hr HN HB hd1 hd2 hz1 hz2 hpl hpc hcl hcc hb
  dsimp only at HT1 HP HC HD1 HD2 HZ
  have HB := Lib.hid (Below.refl w.heap.size w)
  go_enter Try.func60, Try.ntmps60
  go_upto_region 2 with (fail)
  obtain ⟨tb, htb⟩ : ∃ r, thereB P.length k = r := ⟨_, rfl⟩
  have HTB := Lib.hid htb
  clear htb
  refine Agg.chainR 8 (by kernel_rfl) (by kernel_rfl) ?_
  simp only [List.take_succ_cons, List.take_zero, List.drop_succ_cons, List.drop_zero]
  refine Agg.chMove rfl rfl rfl rfl ?_
  refine Agg.chNil rfl rfl rfl rfl ?_
  refine Agg.chFA fo_fo_Tu_0 rfl rfl rfl rfl ?_
  refine Agg.chRowB 4 HT1.out rfl (by decide +kernel) rfl rfl rfl rfl ?_
  refine Agg.chLoadB HKN.out (by decide +kernel) rfl rfl (by rfl) rfl rfl ?_
  refine Agg.chCall Try.func62 rfl (by kernel_rfl) rfl rfl rfl rfl (fun W hb => there_any px cx P.length pc l.length cc z q k W (by have := HD1.out; omega) tb HTB.out) ?_
  refine Agg.chNot rfl rfl rfl rfl ?_
  refine Agg.chAssign rfl rfl rfl rfl ?_
  refine Agg.chEnd ?_
  intro vs w1 hb _
  refine Agg.wpNil ?_
  simp only [List.reverse, List.reverseAux, Agg.fill, List.set_cons_succ, List.set_cons_zero]
  replace HB := Lib.hid (HB.out.trans (hb.mono HB.out.size))
  replace HT1 := Lib.hid (HT1.out.keep hb)
  replace HP := Lib.hid (HP.out.keep hb)
  replace HC := Lib.hid (HC.out.keep hb)
  replace HKN := Lib.hid (HKN.out.keep hb)
  replace HBN := Lib.hid (HBN.out.keep hb)
  clear hb
  cases tb
  · have hr := HR.out
    rw [putP, if_pos HTB.out] at hr
    subst hr
    go_wp2_with fail
    go_ret
    exact ⟨rfl, ⟨_, _, hbt, HT1.out, HP.out, HC.out⟩, HB.out.mono hbw⟩
  · rw [show (!true) = false from rfl]
    obtain ⟨f, hf⟩ : ∃ f, burnF z q = f := ⟨_, rfl⟩
    obtain ⟨f, o⟩ := f
    have hr := HR.out
    rw [putP, if_neg (by rw [HTB.out]; decide)] at hr
    simp only [burnD, hf] at hr
    have HF := Lib.hid hf
    clear hf HR
    go_wp2_with fail
    refine (burns_any px cx P.length pc l.length cc z q _ t w1 HZ.out.1 HZ.out.2 HT1.out f o HF.out).mono ?_
    rintro e w2 ⟨rfl, hT2, hg2⟩
    have HP2 := Lib.hid (HP.out.kept hg2 (own_apart HP.out HT1.out bTne))
    have HC2 := Lib.hid (HC.out.kept hg2 (own_apart HC.out HT1.out wTne))
    have HKN2 := Lib.hid (HKN.out.far' hg2 (by omega))
    have HBN2 := Lib.hid (HBN.out.far' hg2 (by omega))
    have HB2 := Lib.hid ((HB.out.mono hbw).trans (grown_below hg2 (by have := HB.out.size; omega) (fun j hj => (by cases hj; exact hbt))))
    have HT2 := Lib.hid hT2
    clear hg2 hT2 HT1 HP HC HKN HBN HB
    cases o
    · rw [show (!false) = true from rfl]
      rw [if_neg (by decide)] at hr
      subst hr
      go_upto_region 6 with (fail)
      refine Agg.chainR 10 (by kernel_rfl) (by kernel_rfl) ?_
      simp only [List.take_succ_cons, List.take_zero, List.drop_succ_cons, List.drop_zero]
      refine Agg.chMove rfl rfl rfl rfl ?_
      refine Agg.chMove rfl rfl rfl rfl ?_
      refine Agg.chNil rfl rfl rfl rfl ?_
      refine Agg.chFA fo_fo_Tu_0 rfl rfl rfl rfl ?_
      refine Agg.chFA fo_fo_Dev_1 rfl rfl rfl rfl ?_
      refine Agg.chLoadB HT2.out (by decide +kernel) rfl rfl (by rfl) rfl rfl ?_
      refine Agg.chLoadB HKN2.out (by decide +kernel) rfl rfl (by rfl) rfl rfl ?_
      refine Agg.chRowB 132 HBN2.out (bok_cells HBO.out) (by decide +kernel) rfl rfl rfl rfl ?_
      refine Agg.chBuild (v := .agg (wrC (k, b)).toArray) rfl rfl rfl rfl (fun W => build_wr k b HBO.out W) ?_
      refine Agg.chBuildSlice (e := 88) (wrC (k, b)).toArray rfl rfl rfl rfl (fun W => lit_wr k b HBO.out W) ?_
      refine Agg.chEnd ?_
      intro vs w21 hb hf
      simp only [List.reverse, List.reverseAux, Agg.Facts] at hf
      obtain ⟨⟨g9, hv9, hb9, hk9⟩, _⟩ := hf
      simp only [List.reverse, List.reverseAux, Agg.fill, List.set_cons_succ, List.set_cons_zero, hv9]
      clear hv9
      have hT3 := HT2.out.keep hb
      have HP3 := Lib.hid (HP2.out.keep hb)
      have hC3 := HC2.out.keep hb
      have hsl : SlR w21 (.slice (some ⟨g9, 0, none⟩) 1 1) 133 1 (wrC (k, b)) := NewSl.sl (b0 := w2.heap.size) (e := 88) ⟨g9, rfl, hb9, hk9⟩ (wrC_length _ HBO.out) (by unfold maxLen; decide)
      have HB3 := Lib.hid (HB2.out.trans (hb.mono (Nat.le_trans hbw HB2.out.size)))
      clear hb9 hk9 hb HP2 HC2 HKN2 HBN2 HT2 HB2
      refine Agg.append tiW (.tmp 25) (.tmp 29) rfl rfl base (v := .slice cx l.length cc) rfl hC3 rfl hsl (wrC_one _) (by have := HD2.out; unfold maxLen; omega) (by have := HD2.out; omega) (by have := HB3.out.size; omega) ?_
      intro v' w4 hC4 hg4 _
      simp only [Act.put, List.setIfInBounds_toArray, List.set_cons_succ, List.set_cons_zero]
      have hne := own_apart hC3 hT3 wTne
      have hT4 := blk_row hT3 hg4 hne
      have hP4 := HP3.out.kept hg4 (elem_apart HP3.out hC3 bWne)
      have hB4 := HB3.out.trans (grown_below hg4 (by have := HB3.out.size; omega) (own_block hC3))
      obtain ⟨vx, vc, rfl, _, _⟩ := (ownSl hC4).shape
      have HC4 := Lib.hid hC4
      have HP4 := Lib.hid hP4
      have HB4 := Lib.hid hB4
      have HT4 := Lib.hid hT4
      clear hsl hg4 hC3 hC4 hP4 hB4 HP3 HB3 hT3 hne
      go_wp2_with (refine Agg.gStoreCell 1 (.slice vx (l.length + 1) vc) hT4 rfl rfl rfl rfl rfl (by kernel_rfl) rfl (by simp) rfl (fun w13 hb13 hg13 => ?_); clear hT4)
      refine Agg.noP ?_
      have hP13 := HP4.out.kept hg13 (own_apart HP4.out HT4.out bTne)
      have hC13 := HC4.out.kept hg13 (own_apart HC4.out HT4.out wTne)
      have hB13 := HB4.out.trans (grown_below hg13 (Nat.le_trans hbw (Nat.le_trans (by have := HB4.out.size; omega) (Nat.le_refl _))) (fun j hj => (by cases hj; exact hbt)))
      clear hg13 HP4 HC4 HB4 HT4
      have h13 : spliced [Value.slice px P.length pc, Value.slice cx l.length cc, Value.int IntKind.i64 f, Value.bool false] 1 [Value.slice vx (l.length + 1) vc] = [Value.slice px P.length pc, Value.slice vx (l.length + 1) vc, Value.int IntKind.i64 f, Value.bool false] := by simp [spliced]
      rw [h13] at hb13
      clear h13
      go_wp2_with fail
      go_ret
      refine ⟨rfl, ⟨_, _, hbt, hb13, hP13, ?_⟩, hB13⟩
      simpa [wrC] using hC13
    · rw [show (!true) = false from rfl]
      rw [if_pos rfl] at hr
      subst hr
      go_wp2_with fail
      go_ret
      exact ⟨rfl, ⟨_, _, hbt, HT2.out, HP2.out, HC2.out⟩, HB2.out⟩
end Go.Proofs.Ytjnnnnolikbjcaa
end
